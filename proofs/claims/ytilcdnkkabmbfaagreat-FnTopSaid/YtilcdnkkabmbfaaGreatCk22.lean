/- One alone wins and also in the reversed profile, of the program and of the spec. A vote without which a candidate wins that it prefers: the profile without a vote, of the spec. Drawn regions in an order of one's own, with a place where either of two operations may come next. -/
import Derived.Test.YtilcdnkkabmbfaaGreatCk20
import Derived.Test.YtilcdnkkabmbfaaGreatCk21
import Derived.Test.YtilcdnkkabmbfaaGreatCk0
namespace Go.Proofs.YtilcdnkkabmbfaaGreat
open Go.RowKit

set_option maxRecDepth 100000 in
set_option maxHeartbeats 1000000 in
theorem equN_impl (w : World) (a1 a2 : Option Addr) (c1 c2 n : Nat) (xs ys : List Int) (hX : RdI w a1 xs) (hY : RdI w a2 ys) (hl : n ≤ 2000000) (hxn : Hid (xs.length = n)) (hyn : Hid (ys.length = n)) :
    Calls Tryz.prog 66 #[.slice a1 n c1, .slice a2 n c2] w fun e w' => e = .returned (.bool (decide (xs = ys))) ∧ Ext w w' := by
  go_enter Tryz.func66, Tryz.ntmps66
  go_wp2_with fail
  go_loopw [5, 13] (fun _ i wr => ∃ k : Nat, k ≤ n ∧ i = .int .i64 k ∧ Hid (xs.take k = ys.take k) ∧ Ext w wr) (fun _ i _ => n - (intOf i).toNat)
  case atStart => exact ⟨0, Nat.zero_le _, rfl, rfl, Ext.refl _⟩
  case round =>
    obtain ⟨k, hk, rfl, hall, hwr⟩ := hrel
    by_cases hlt : k < n
    · obtain ⟨x, hx⟩ := at_of_lt (xs := xs) (k := k) (by rw [hxn.out]; exact hlt)
      obtain ⟨y, hy⟩ := at_of_lt (xs := ys) (k := k) (by rw [hyn.out]; exact hlt)
      obtain ⟨b, off, rfl, c0⟩ := (hX.ext hwr).at_ hx
      obtain ⟨b', off', rfl, d0⟩ := (hY.ext hwr).at_ hy
      have hx' := hide hx
      have hy' := hide hy
      clear hx hy
      cases e : (x != y)
      all_goals
        go_wp2
        refine wp_region_X (by kernel_rfl) (by kernel_rfl) ?_
        repeat' (refine wpX_stepQ (fun K hK => ?_)
                 go_simp
                 try (rw [if_neg (by intro h; simp [undef] at h)])
                 try split
                 all_goals
                   first
                   | (refine hK _ ?_
                      clear hK K)
                   | (apply Exists.intro
                      refine ⟨fun wq hwq => ?_, hK _ ?_⟩
                      · have hcq := hwq.cellS
                        go_simp
                        first
                        | exact ⟨Ext.refl _, rfl⟩
                      clear hK K))
        refine wpX_nil (fun wz hwz => ?_)
        go_wp2
      · exact ⟨⟨k + 1, by omega, by go_num, take_ext hall.out hx'.out hy'.out (by simpa using e), hwr.trans hwz⟩, by simp [intOf]; omega⟩
      · go_ret
        refine ⟨ret_bool ?_, hwr.trans hwz⟩
        have h1 := hx'.out
        have h2 := hy'.out
        symm
        rw [decide_eq_false_iff_not]
        rintro rfl
        rw [h1] at h2
        injection h2 with h2
        simp [h2] at e
    · go_wp2
      go_ret
      refine ⟨ret_bool ?_, hwr⟩
      have h := hall.out
      rw [List.take_of_length_le (by rw [hxn.out]; omega), List.take_of_length_le (by rw [hyn.out]; omega)] at h
      simp [h]

set_option maxRecDepth 100000 in
theorem equ_impl (w : World) (a1 a2 : Option Addr) (c1 c2 : Nat) (xs ys : List Int) (hX : RdI w a1 xs) (hY : RdI w a2 ys) (hl : xs.length ≤ 2000000) :
    Calls Tryz.prog 66 #[.slice a1 xs.length c1, .slice a2 ys.length c2] w fun e w' => e = .returned (.bool (decide (xs = ys))) ∧ Ext w w' := by
  by_cases hlen : xs.length = ys.length
  · rw [← hlen]
    exact equN_impl w a1 a2 c1 c2 xs.length xs ys hX hY hl rfl hlen.symm
  · go_enter Tryz.func66, Tryz.ntmps66
    go_wp2
    go_ret
    exact ⟨ret_bool (by simp; rintro rfl; exact hlen rfl), (by repeat (first | exact Ext.refl _ | assumption | refine Ext.alloc ?_ _ | refine Ext.drew ?_ | refine Ext.trans ?_ (by assumption)))⟩

set_option maxRecDepth 100000 in
theorem revMap (vs : List Vt) : vs.map (fun x => (x.1.reverse, x.2)) = mapV List.reverse vs := rfl

set_option maxRecDepth 100000 in
set_option maxHeartbeats 2000000 in
theorem chg_no (K : Value) (w : World) (sz s2 : Int) (a : Option Addr) (c : Nat) (vs : List Vt) (hR : RdV w a vs) (h0 : profOk sz vs = false) :
    Calls Tryz.prog 54 #[.agg #[.int .i64 sz, .slice a vs.length c], .int .i64 s2, K] w fun e w' => e = .returned (.tuple #[.agg #[.int .i64 0, .slice none 0 0], .bool false]) ∧ Ext w w' := by
  have q0 := new0 w (.int .i64 sz) [.slice a vs.length c] 29
  have q1 := new1 w (.int .i64 sz) (.slice a vs.length c) [] 29
  have hs1 : (w.alloc (.cells #[.int .i64 sz, .slice a vs.length c] 29)).heap.size = w.heap.size + 1 := by simp
  have p0 := BlkF.new (w.alloc (.cells #[.int .i64 sz, .slice a vs.length c] 29)) #[.int .i64 0, .slice none 0 0] 29
  rw [hs1] at p0
  have P0 := hide p0
  clear p0 hs1
  go_enter Tryz.func54, Tryz.ntmps54
  go_wp2_with fail
  have HPO := prof_impl ((w.alloc (.cells #[.int .i64 sz, .slice a vs.length c] 29)).alloc (.cells #[.int .i64 0, .slice none 0 0] 29)) sz a c vs (hR.ext (by repeat (first | exact Ext.refl _ | assumption | refine Ext.alloc ?_ _ | refine Ext.drew ?_ | refine Ext.trans ?_ (by assumption))))
  rw [h0] at HPO
  refine HPO.mono ?_
  rintro e w1 ⟨rfl, hw1⟩
  have p1 := P0.out.ext hw1
  have hw : Ext w w1 := (by repeat (first | exact Ext.refl _ | assumption | refine Ext.alloc ?_ _ | refine Ext.drew ?_ | refine Ext.trans ?_ (by assumption)))
  have r0 := p1.cell 0 (by simp)
  have r1 := p1.cell 1 (by simp)
  have z0 := p1.fr 0
  have z1 := p1.fr 1
  clear p1 P0 hw1
  go_wp2
  have hO1 : Only (w.heap.size + 1) w1 ((w1.setCell ⟨w.heap.size + 1, 0, none⟩ (.int .i64 0)).setCell ⟨w.heap.size + 1, 1, none⟩ (.slice none 0 0)) := ((Only.refl _ w1).setCell 0 _).setCell 1 _
  exact bodyPost_ret (v := .tuple #[.agg #[.int .i64 0, .slice none 0 0], .bool false]) (by simp [results, Tryz.results54, go_sem, r0, r1]) rfl ⟨rfl, Only.ext hw hO1 (by omega)⟩

set_option maxRecDepth 100000 in
set_option maxHeartbeats 2000000 in
theorem revP_no (w : World) (sz : Int) (a : Option Addr) (c : Nat) (vs : List Vt) (hR : RdV w a vs) (h0 : profOk sz vs = false) :
    Calls Tryz.prog 65 #[.agg #[.int .i64 sz, .slice a vs.length c]] w fun e w' => e = .returned (.tuple #[.agg #[.int .i64 0, .slice none 0 0], .bool false]) ∧ Ext w w' := by
  have HC : Hid (∀ w', Ext w w' → Calls Tryz.prog 54 #[.agg #[.int .i64 sz, .slice a vs.length c], .int .i64 sz, .func (.func 124) #[] #[]] w' fun e w'' => e = .returned (.tuple #[.agg #[.int .i64 0, .slice none 0 0], .bool false]) ∧ Ext w' w'') := fun w' hw' => chg_no _ w' sz sz a c vs (hR.ext hw') h0
  have q0 := new0 w (.int .i64 sz) [.slice a vs.length c] 29
  have q1 := new1 w (.int .i64 sz) (.slice a vs.length c) [] 29
  have hE1 := Ext.new w (.cells #[.int .i64 sz, .slice a vs.length c] 29)
  have hs0 : (w.alloc (.cells #[.int .i64 sz, .slice a vs.length c] 29)).heap.size = w.heap.size + 1 := by simp
  have p0 := BlkF.new (w.alloc (.cells #[.int .i64 sz, .slice a vs.length c] 29)) #[.int .i64 0, .slice none 0 0] 29
  have hE2 := Ext.new (w.alloc (.cells #[.int .i64 sz, .slice a vs.length c] 29)) (.cells #[.int .i64 0, .slice none 0 0] 29)
  rw [hs0] at p0
  clear h0
  go_enter Tryz.func65, Tryz.ntmps65
  go_wp2_with fail
  generalize w.alloc (.cells #[.int .i64 sz, .slice a vs.length c] 29) = wA at hE1 hE2 hs0 p0 q0 q1 ⊢
  have hw : Ext w (wA.alloc (.cells #[.int .i64 0, .slice none 0 0] 29)) := hE1.trans hE2
  generalize wA.alloc (.cells #[.int .i64 0, .slice none 0 0] 29) = wb at hE2 p0 hw ⊢
  refine (HC.out _ hw).mono ?_
  rintro e w1 ⟨rfl, hw1⟩
  have p1 := p0.ext hw1
  have r0 := p1.cell 0 (by simp)
  have r1 := p1.cell 1 (by simp)
  have z0 := p1.fr 0
  have z1 := p1.fr 1
  clear p1 p0 HC
  go_wp2
  have hO1 : Only (w.heap.size + 1) w1 ((w1.setCell ⟨w.heap.size + 1, 0, none⟩ (.int .i64 0)).setCell ⟨w.heap.size + 1, 1, none⟩ (.slice none 0 0)) := ((Only.refl _ w1).setCell 0 _).setCell 1 _
  exact bodyPost_ret (v := .tuple #[.agg #[.int .i64 0, .slice none 0 0], .bool false]) (by simp [results, Tryz.results65, go_sem, r0, r1]) rfl ⟨rfl, Only.ext (hw.trans hw1) hO1 (by omega)⟩

set_option maxRecDepth 100000 in
set_option maxHeartbeats 4000000 in
theorem revF_impl (w : World) (rule sz : Int) (a : Option Addr) (c : Nat) (vs : List Vt) (hR : RdV w a vs) :
    Calls Tryz.prog 26 #[.int .i64 rule, .agg #[.int .i64 sz, .slice a vs.length c]] w fun e w' => e = .returned (.bool (revO rule sz vs)) ∧ Ext w w' := by
  have q0 := new0 w (.int .i64 sz) [.slice a vs.length c] 29
  have q1 := new1 w (.int .i64 sz) (.slice a vs.length c) [] 29
  have hw := Ext.new w (.cells #[.int .i64 sz, .slice a vs.length c] 29)
  obtain ⟨xs, hxs⟩ : ∃ xs, xs = winO rule sz vs := ⟨_, rfl⟩
  have hxl : xs.length ≤ 5 := by rw [hxs]; exact winO_len rule sz vs
  have HWI : Hid (∀ w', Ext w w' → Calls Tryz.prog 17 #[.int .i64 rule, .agg #[.int .i64 sz, .slice a vs.length c]] w' fun e w'' => ∃ v, e = .returned v ∧ OwnI w'' w'.heap.size v xs ∧ Ext w' w'') := fun w' hw' => by
    rw [hxs]; exact wins_impl w' rule sz a c vs (hR.ext hw')
  cases h0 : profOk sz vs
  · have HF : Hid (revO rule sz vs = false) := hide (by unfold revO; rw [show winO rule sz vs = [] by simp [winO, h0]]; simp)
    have HRP := hide (revP_no (w.alloc (.cells #[.int .i64 sz, .slice a vs.length c] 29)) sz a c vs (hR.ext hw) h0)
    clear h0 hxs
    go_enter Tryz.func26, Tryz.ntmps26
    go_wp2_with fail
    refine HRP.out.mono ?_
    rintro e w1 ⟨rfl, hw1⟩
    have hwb := (hw.trans hw1).trans (Ext.new w1 (.cells #[.int .i64 0, .slice none 0 0] 29))
    have hEx := Ext.new w1 (.cells #[.int .i64 0, .slice none 0 0] 29)
    have q0 := hEx.keep (hw1.keep q0)
    have q1 := hEx.keep (hw1.keep q1)
    go_wp2_with fail
    refine (HWI.out _ hwb).mono ?_
    rintro e w2 ⟨v, rfl, hv, hw2⟩
    go_wp2
    go_ret
    exact ⟨ret_bool HF.out.symm, hwb.trans hw2⟩
  obtain ⟨ys, hys⟩ : ∃ ys, ys = winO rule sz (mapV List.reverse vs) := ⟨_, rfl⟩
  have hyl : ys.length ≤ 5 := by rw [hys]; exact winO_len _ _ _
  have HV : Hid (revO rule sz vs = (decide (xs.length = 1) && (decide (2 ≤ sz) && decide (xs = ys)))) := hide (by unfold revO; rw [hxs, hys])
  have HRP := hide (revP_impl (w.alloc (.cells #[.int .i64 sz, .slice a vs.length c] 29)) sz a c vs (hR.ext hw) h0)
  have HWR : Hid (∀ w' a3 n3 c3, n3 = (mapV List.reverse vs).length → RdV w' a3 (mapV List.reverse vs) → Calls Tryz.prog 17 #[.int .i64 rule, .agg #[.int .i64 sz, .slice a3 n3 c3]] w' fun e w'' => ∃ v, e = .returned v ∧ OwnI w'' w'.heap.size v ys ∧ Ext w' w'') := fun w' a3 n3 c3 hn hR3 => by
    rw [hn, hys]; exact wins_impl w' rule sz a3 c3 _ hR3
  clear h0 hxs hys
  go_enter Tryz.func26, Tryz.ntmps26
  go_wp2_with fail
  refine HRP.out.mono ?_
  rintro e w1 ⟨v, es, rfl, hl, hm, hw1⟩
  obtain ⟨av, cv, rfl, hcv⟩ := hl.form
  have hRv := hl.rdV
  rw [hm, revMap] at hRv
  have hel : es.length = (mapV List.reverse vs).length := vtsOf_len (by rw [hm, revMap])
  have HEL := hide hel
  have hEx := Ext.new w1 (.cells #[.int .i64 sz, .slice av es.length cv] 29)
  have e0 := new0 w1 (.int .i64 sz) [.slice av es.length cv] 29
  have e1 := new1 w1 (.int .i64 sz) (.slice av es.length cv) [] 29
  have hwb := (hw.trans hw1).trans hEx
  have q0 := hEx.keep (hw1.keep q0)
  have q1 := hEx.keep (hw1.keep q1)
  clear hl hm hel HRP
  go_wp2_with fail
  refine (HWI.out _ hwb).mono ?_
  rintro e w2 ⟨v, rfl, hv, hw2⟩
  obtain ⟨ax, cx, rfl, hcx, _, hRx, _⟩ := hv.val
  have e0 := hw2.keep e0
  have e1 := hw2.keep e1
  have q0 := hw2.keep q0
  have q1 := hw2.keep q1
  have HWZ := hide (HWR.out w2 av es.length cv HEL.out (hRv.ext (hEx.trans hw2)))
  have hwc := hwb.trans hw2
  clear hv HWI HWR
  by_cases h2 : 2 ≤ sz
  · have t1 : ¬ sz < 2 := by omega
    by_cases h1 : xs.length = 1
    · have HXE : Hid (∀ w3 a3 c3, Ext w2 w3 → RdI w3 a3 ys → Calls Tryz.prog 66 #[.slice ax 1 cx, .slice a3 ys.length c3] w3 fun e w' => e = .returned (.bool (decide (xs = ys))) ∧ Ext w3 w') := fun w3 a3 c3 hw3 hR3 => by
        have h := equ_impl w3 ax a3 cx c3 xs ys (hRx.ext hw3) hR3 (by omega)
        rw [h1] at h
        exact h
      have HVV : Hid (revO rule sz vs = decide (xs = ys)) := hide (by rw [HV.out, decide_eq_true h1, decide_eq_true h2]; simp)
      rw [h1]
      clear h1 hRx HV
      go_wp2_with fail
      refine HWZ.out.mono ?_
      rintro e w3 ⟨v, rfl, hv, hw3⟩
      obtain ⟨ay, cy, rfl, hcy, _, hRy, _⟩ := hv.val
      have HEQ := hide (HXE.out w3 ay cy hw3 hRy)
      clear hv hRy HXE
      go_wp2_with fail
      refine HEQ.out.mono ?_
      rintro e w4 ⟨rfl, hw4⟩
      go_wp2
      go_ret
      exact ⟨ret_bool HVV.out.symm, hwc.trans (hw3.trans hw4)⟩
    · have HVV : Hid (revO rule sz vs = false) := hide (by rw [HV.out, decide_eq_false h1]; rfl)
      have t0 : ((xs.length : Int) == 1) = false := by rw [beq_eq_false_iff_ne]; omega
      clear HV
      go_wp2
      go_ret
      exact ⟨ret_bool HVV.out.symm, hwc⟩
  · have HVV : Hid (revO rule sz vs = false) := hide (by rw [HV.out, decide_eq_false h2]; simp)
    clear HV
    go_wp2
    go_ret
    exact ⟨ret_bool HVV.out.symm, hwc⟩

set_option maxRecDepth 100000 in
theorem er_ne {vs : List Vt} {k i : Nat} {x : Vt} (hx : vs[i]? = some x) (h : i ≠ k) : (vs.take (i + 1)).eraseIdx k = (vs.take i).eraseIdx k ++ [x] := by
  have hl := lt_of_at hx
  have hlen : (vs.take i).length = i := by rw [List.length_take]; omega
  rw [take_at hx]
  by_cases hk : k < i
  · rw [List.eraseIdx_append_of_lt_length (by omega)]
  · rw [List.eraseIdx_of_length_le (by rw [List.length_append, hlen]; simp; omega), List.eraseIdx_of_length_le (by omega)]
set_option maxRecDepth 100000 in
theorem er_eq {vs : List Vt} {k : Nat} {x : Vt} (hx : vs[k]? = some x) : (vs.take (k + 1)).eraseIdx k = (vs.take k).eraseIdx k := by
  have hl := lt_of_at hx
  have hlen : (vs.take k).length = k := by rw [List.length_take]; omega
  rw [take_at hx, List.eraseIdx_append_of_length_le (by omega), List.eraseIdx_of_length_le (l := vs.take k) (by omega), hlen]
  simp

section
variable {P : Program} {ops : Array Oper}
/-- What is to be shown of a region when some of its operations are done: a list of places leads through the rest. -/
def wpZ (P : Program) (ops : Array Oper) (Q : Act → World → Prop) (is : List Nat) (listed : Array Bool) (W : World) (a : Act) : Prop :=
  Region.noSelect ops = true → Closed .any ops listed → ordB ops is listed = true → wpAnyX P .any ops Q is.length listed W a
set_option maxRecDepth 100000 in
theorem wp_region_Z {id : Nat} {Q : Exit → Act → World → Prop} {a : Act} {w : World} {l : List Oper} (is : List Nat) (hm : P.follows .mixedOrders = true) (hlen : is.length = l.length)
    (hB : (Region.noSelect l.toArray && ordB l.toArray is (Array.replicate l.length false)) = true)
    (h : wpZ P l.toArray (fun a' w' => Q .normal a' w') is (Array.replicate l.length false) w a) : (Code.region id l.toArray true).wp P Q a w := by
  simp only [Bool.and_eq_true] at hB
  have h1 := (h hB.1 (Closed.start _ _ _) hB.2).mono _ _ ((Ext.refl w).drew)
  rw [hlen] at h1
  exact wp_region_any hm (wpAny_of_X (fun _ _ h => h) _ _ _ _ (by simpa using h1))
set_option maxRecDepth 100000 in
theorem wpZ_nil {Q : Act → World → Prop} {listed : Array Bool} {W : World} {a : Act} (h : ∀ w, Ext W w → Q a w) : wpZ P ops Q [] listed W a := fun _ _ hB => ⟨by simpa [ordB] using hB, h⟩
set_option maxRecDepth 100000 in
theorem wpZ_stepQ {Q : Act → World → Prop} {o : Oper} {i : Nat} {rest : List Nat} {listed : Array Bool} {W : World} {a : Act} (h0 : ops[i]? = some o)
    (h : ∀ K : Act → Prop, (∀ a, wpZ P ops Q rest (listed.setIfInBounds i true) W a → K a) → if Region.wanted o (yielded ops a.tmps) then ∃ v, QX P W o a v ∧ K (a.put o.dst v) else K (a.put o.dst undef)) : wpZ P ops Q (i :: rest) listed W a := by
  intro hs hcl hB
  simp only [ordB, Bool.and_eq_true] at hB
  obtain ⟨⟨hr, hf⟩, hB'⟩ := hB
  have hcl' := hcl.set (j := i) (by simpa using hr)
  have h1 := h _ (fun _ h => h)
  by_cases hw : Region.wanted o (yielded ops a.tmps) = true
  · simp only [hw, if_true] at h1
    obtain ⟨v, hq, hK⟩ := h1
    exact wpAnyX_first h0 (Region.noSelect_spec hs) rest.length _ W a (Region.free_spec h0 hf) hcl (by simpa using hr) (.inl ⟨hw, hq⟩) (hK hs hcl' hB')
  · simp only [hw] at h1
    exact wpAnyX_first h0 (Region.noSelect_spec hs) rest.length _ W a (Region.free_spec h0 hf) hcl (by simpa using hr) (.inr ⟨by simpa using hw, rfl⟩) (h1 hs hcl' hB')
set_option maxRecDepth 100000 in
/-- One operation that only adds memory. -/
theorem wpZ_do {Q : Act → World → Prop} {o : Oper} {i : Nat} {rest : List Nat} {listed : Array Bool} {W : World} {a : Act} (h0 : ops[i]? = some o)
    (h : ∀ K : World → Act → Prop, (∀ W a, wpZ P ops Q rest (listed.setIfInBounds i true) W a → K W a) → ∀ w, Ext W w →
      if Region.wanted o (yielded ops a.tmps) then o.wp P a w (fun a' w' => Ext w w' ∧ K w' a') NoExit else K w (a.put o.dst undef)) :
    ∀ w, Ext W w → wpOp P ops NoExit i (fun a' w' => Ext w w' ∧ wpZ P ops Q rest (listed.setIfInBounds i true) w' a') a w := by
  intro w hw'
  have h1 := h _ (fun _ _ h => h) w hw'
  unfold wpOp
  simp only [h0]
  by_cases hw : Region.wanted o (yielded ops a.tmps) = true
  · simp only [hw, if_true] at h1 ⊢
    exact .inl h1
  · simp only [hw] at h1 ⊢
    exact ⟨Ext.refl _, h1⟩
set_option maxRecDepth 100000 in
theorem wpZ_stepS {Q : Act → World → Prop} {o : Oper} {i : Nat} {rest : List Nat} {listed : Array Bool} {W : World} {a : Act} (h0 : ops[i]? = some o) (hs : (Region.ready .any ops listed == [i]) = true)
    (h : ∀ K : World → Act → Prop, (∀ W a, wpZ P ops Q rest (listed.setIfInBounds i true) W a → K W a) → ∀ w, Ext W w →
      if Region.wanted o (yielded ops a.tmps) then o.wp P a w (fun a' w' => Ext w w' ∧ K w' a') NoExit else K w (a.put o.dst undef)) : wpZ P ops Q (i :: rest) listed W a := by
  intro hn hcl hB
  have hs := eq_of_beq hs
  simp only [ordB, Bool.and_eq_true] at hB
  obtain ⟨⟨hr, hf⟩, hB'⟩ := hB
  have hcl' := hcl.set (j := i) (by simpa using hr)
  refine ⟨fun h => (by rw [h] at hs; cases hs), fun j hj w hw => ?_⟩
  have hik : j = i := by rw [hs] at hj; simpa using hj
  subst hik
  exact wpOp_mono (fun a' w' h3 => .inl ⟨h3.1, h3.2 hn hcl' hB'⟩) (wpZ_do h0 h w hw)
set_option maxRecDepth 100000 in
/-- Either of two operations may be next. -/
theorem wpZ_stepF {Q : Act → World → Prop} {o o2 : Oper} {i : Nat} {rest : List Nat} {listed : Array Bool} {W : World} {a : Act} (j : Nat) (rest2 : List Nat) (h0 : ops[i]? = some o) (h02 : ops[j]? = some o2)
    (hs : (Region.ready .any ops listed == [i, j]) = true) (hl : rest2.length = rest.length) (hB2 : ordB ops rest2 (listed.setIfInBounds j true) = true)
    (h : ∀ K : World → Act → Prop, (∀ W a, wpZ P ops Q rest (listed.setIfInBounds i true) W a → K W a) → ∀ w, Ext W w →
      if Region.wanted o (yielded ops a.tmps) then o.wp P a w (fun a' w' => Ext w w' ∧ K w' a') NoExit else K w (a.put o.dst undef))
    (h2 : ∀ K : World → Act → Prop, (∀ W a, wpZ P ops Q rest2 (listed.setIfInBounds j true) W a → K W a) → ∀ w, Ext W w →
      if Region.wanted o2 (yielded ops a.tmps) then o2.wp P a w (fun a' w' => Ext w w' ∧ K w' a') NoExit else K w (a.put o2.dst undef)) : wpZ P ops Q (i :: rest) listed W a := by
  intro hn hcl hB
  have hs := eq_of_beq hs
  simp only [ordB, Bool.and_eq_true] at hB
  obtain ⟨⟨hr, hf⟩, hB'⟩ := hB
  have hcl' := hcl.set (j := i) (by simpa using hr)
  have hcl2 := hcl.set (j := j) (by rw [hs]; simp)
  refine ⟨fun h => (by rw [h] at hs; cases hs), fun k hk w hw => ?_⟩
  rw [hs] at hk
  rcases List.mem_cons.1 hk with rfl | hk
  · exact wpOp_mono (fun a' w' h3 => .inl ⟨h3.1, h3.2 hn hcl' hB'⟩) (wpZ_do h0 h w hw)
  · have hkj : k = j := by simpa using hk
    subst hkj
    refine wpOp_mono (fun a' w' h3 => .inl ⟨h3.1, ?_⟩) (wpZ_do h02 h2 w hw)
    rw [← hl]
    exact h3.2 hn hcl2 hB2
set_option maxRecDepth 100000 in
theorem wpZ_stepL {Q : Act → World → Prop} {o : Oper} {i : Nat} {rest : List Nat} {listed : Array Bool} {W : World} {a : Act} (h0 : ops[i]? = some o) (hs : (Region.ready .any ops listed == [i]) = true) (hl : lastB .any ops i = true)
    (he : (Region.ready .any ops (listed.setIfInBounds i true)).isEmpty = true)
    (h : ∀ K : Act → World → Prop, (∀ a w, Q a w → K a w) → ∀ w, Ext W w → if Region.wanted o (yielded ops a.tmps) then o.wp P a w K NoExit else K (a.put o.dst undef) w) : wpZ P ops Q (i :: rest) listed W a := by
  intro hn hcl hB
  have hs := eq_of_beq hs
  refine ⟨fun h => (by rw [h] at hs; cases hs), fun j hj w hw' => ?_⟩
  have hik : j = i := by rw [hs] at hj; simpa using hj
  subst hik
  have h1 := h _ (fun _ _ h => h) w hw'
  have key : wpOp P ops NoExit j (fun a' w' => Q a' w') a w := by
    unfold wpOp
    simp only [h0]
    by_cases hw : Region.wanted o (yielded ops a.tmps) = true
    · simp only [hw, if_true] at h1 ⊢
      exact .inl h1
    · simp only [hw] at h1 ⊢
      exact h1
  exact wpOp_mono (fun a' w' h3 => .inr (.inl ⟨hl, List.isEmpty_iff.1 he, h3⟩)) key
end

end Go.Proofs.YtilcdnkkabmbfaaGreat
