/- The order that the kept pairs give, of the program. Sums over candidates and votes (plain law). Weights of Borda and of veto, last places and winners by scores, of the program. Weights of Borda and of veto, and winners by scores, of the spec; the last one of a list. -/
import Derived.Test.YtilcdnkkabmbfaaGreatCk7
import Derived.Test.YtilcdnkkabmbfaaGreatCk11
import Derived.Test.YtilcdnkkabmbfaaGreatCk16
import Derived.Test.YtilcdnkkabmbfaaGreatCk10
import Derived.Test.YtilcdnkkabmbfaaGreatCk8
import Derived.Test.YtilcdnkkabmbfaaGreatCk9
import Derived.Test.YtilcdnkkabmbfaaGreatCk12
import Derived.Test.YtilcdnkkabmbfaaGreatCk13
namespace Go.Proofs.YtilcdnkkabmbfaaGreat
open Go.RowKit

set_option maxRecDepth 100000 in
set_option maxHeartbeats 1000000 in
theorem prkIn (w : World) (a' : Option Addr) (n' c' : Nat) (hn : n' = 2) (p q j : Int) (g1 g2 : Nat) (al : Option Addr) (cl : Nat) (left : List Int) (h1 : w.cell? ⟨g1, 0, none⟩ = some (.int .i64 j)) (h2 : w.cell? ⟨g2, 0, none⟩ = some (.slice al left.length cl)) (hRx : RdI w a' [p, q]) (hRl : RdI w al left) (hl : left.length ≤ 5) :
    Calls Tryz.prog 110 #[.slice a' n' c', .pointer (some ⟨g1, 0, none⟩), .pointer (some ⟨g2, 0, none⟩)] w fun e w' => e = .returned (.bool ((q == j) && hasI left p)) ∧ Ext w w' := by
  subst hn
  obtain ⟨b, off, rfl, c0, c1⟩ := hRx.two
  have HC := hide (fun w' (hw' : Ext w w') => containsI w' (w'.heap.size + 1000) (.slice al left.length cl) left p ⟨al, cl, rfl, hRl.ext hw', fun b off hb hne => by
    obtain ⟨x, hx⟩ := List.exists_mem_of_ne_nil _ hne
    obtain ⟨k, hk⟩ := List.mem_iff_getElem?.1 hx
    obtain ⟨b3, o3, hb3, hc3⟩ := hRl.at_ hk
    rw [hb] at hb3
    injection hb3 with hb3
    injection hb3 with hb3
    subst hb3
    have h1 := World.block_lt_of_cell? w _ hc3
    have h2 : b < w.heap.size := h1
    have := hw'.size
    omega⟩ (by omega))
  cases hq : (q == j)
  · clear HC
    go_enter Tryz.func110, Tryz.ntmps110
    go_wp2
    refine wp_region_X (by kernel_rfl) (by kernel_rfl) ?_
    repeat' (refine wpX_stepQ (fun K hK => ?_)
             go_simp
             try (rw [if_neg (by intro h; simp [undef] at h)])
             try split
             all_goals
               first
               | (refine hK _ ?_
                  clear hK K)
               | (apply Exists.intro
                  refine ⟨fun wq hwq => ?_, hK _ ?_⟩
                  · have hcq := hwq.cellS
                    go_simp
                    first
                    | exact ⟨Ext.refl _, rfl⟩
                  clear hK K))
    refine wpX_nil (fun wz hwz => ?_)
    go_wp2
    go_ret
    exact ⟨rfl, hwz⟩
  · go_enter Tryz.func110, Tryz.ntmps110
    go_wp2
    refine wp_region_X (by kernel_rfl) (by kernel_rfl) ?_
    repeat' (refine wpX_stepQ (fun K hK => ?_)
             go_simp
             try (rw [if_neg (by intro h; simp [undef] at h)])
             try split
             all_goals
               first
               | (refine hK _ ?_
                  clear hK K)
               | (apply Exists.intro
                  refine ⟨fun wq hwq => ?_, hK _ ?_⟩
                  · have hcq := hwq.cellS
                    go_simp
                    first
                    | exact ⟨Ext.refl _, rfl⟩
                    | exact ⟨Ext.refl _, HC.out _ (by repeat (first | exact Ext.refl _ | assumption | refine Ext.alloc ?_ _ | refine Ext.drew ?_ | refine Ext.trans ?_ (by assumption)))⟩
                  clear hK K))
    refine wpX_nil (fun wz hwz => ?_)
    go_wp2
    go_ret
    exact ⟨ret_bool (by simp), hwz⟩

set_option maxRecDepth 100000 in
set_option maxHeartbeats 1000000 in
theorem prkOne (w : World) (B : Nat) (gk gl n : Nat) (a al : Option Addr) (c cl : Nat) (kept : List (List Int)) (left : List Int) (j : Int) (h1 : w.cell? ⟨gk, 0, none⟩ = some (.slice a kept.length c)) (h2 : w.cell? ⟨gl, 0, none⟩ = some (.slice al left.length cl)) (hR : RdSS w B (.slice a kept.length c) kept)
    (hRl : RdI w al left) (hl : left.length ≤ 5) (hk : kept.length ≤ 1000) (hp : ∀ x ∈ kept, PairN n x) :
    Calls Tryz.prog 108 #[.int .i64 j, .pointer (some ⟨gk, 0, none⟩), .pointer (some ⟨gl, 0, none⟩)] w fun e w' => e = .returned (.bool (freeB kept left j)) ∧ Ext w w' := by
  have f0 := new0 w (.int .i64 j) [] 3
  have hE := Ext.new w (.cells #[.int .i64 j] 3)
  have h2' := hE.keep h2
  have hRl' := hRl.ext hE
  have HC := hide (containsFuncR 110 #[] #[.pointer (some ⟨w.heap.size, 0, none⟩), .pointer (some ⟨gl, 0, none⟩)] (fun x => (p1 x == j) && hasI left (p0 x)) _ B a c kept (hR.ext hE) (by omega) Tryz.call110
    (fun xs a' c' w' hx hRx hw' => by
      obtain ⟨p, q, _, _, rfl⟩ := hp xs hx
      exact prkIn w' a' _ c' rfl p q j w.heap.size gl al cl left (hw'.keep f0) (hw'.keep h2') hRx (hRl'.ext hw') hl))
  have h1' := hE.keep h1
  clear hp hR hRl hRl' h2' f0 hE
  show Calls Tryz.prog 108 #[.int .i64 j, .pointer (some ⟨gk, 0, none⟩), .pointer (some ⟨gl, 0, none⟩)] w _
  go_enter Tryz.func108, Tryz.ntmps108
  go_wp2_with fail
  refine HC.out.mono ?_
  rintro e w1 ⟨rfl, hw1⟩
  go_wp2
  go_ret
  exact ⟨ret_bool (by unfold freeB; rfl), (by repeat (first | exact Ext.refl _ | assumption | refine Ext.alloc ?_ _ | refine Ext.drew ?_ | refine Ext.trans ?_ (by assumption)))⟩

set_option maxRecDepth 100000 in
theorem BlkF.keepG {w w' : World} {g n : Nat} {f : Nat → Value} {row : Option Nat} (h : BlkF w g n f) (hg : w.grownBy w' row) (hr : row ≠ some g) : BlkF w' g n f := h.grown hg (fun k hk e => hr (by rw [hk, e]))

set_option maxRecDepth 100000 in
set_option maxHeartbeats 8000000 in
theorem prk_impl (w : World) (sz : Int) (a : Option Addr) (c : Nat) (vs : List Vt) (hR : RdV w a vs) :
    Calls Tryz.prog 51 #[.agg #[.int .i64 sz, .slice a vs.length c]] w fun e w' => ∃ v, e = .returned v ∧ OwnI w' w.heap.size v (prkO sz vs) ∧ Ext w w' := by
  have q0 := new0 w (.int .i64 sz) [.slice a vs.length c] 29
  have q1 := new1 w (.int .i64 sz) (.slice a vs.length c) [] 29
  cases h0 : profOk sz vs
  · go_enter Tryz.func51, Tryz.ntmps51
    go_wp2_with (go_at_call 36; refine (prof_impl _ _ _ _ _ (hR.ext (by repeat (first | exact Ext.refl _ | assumption | refine Ext.alloc ?_ _ | refine Ext.drew ?_ | refine Ext.trans ?_ (by assumption))))).mono ?_; rintro e w1 ⟨rfl, hw1⟩; have q0 := Ext.keep (w' := w1) (by repeat (first | exact Ext.refl _ | assumption | refine Ext.alloc ?_ _ | refine Ext.drew ?_ | refine Ext.trans ?_ (by assumption))) q0; have q1 := Ext.keep (w' := w1) (by repeat (first | exact Ext.refl _ | assumption | refine Ext.alloc ?_ _ | refine Ext.drew ?_ | refine Ext.trans ?_ (by assumption))) q1)
    go_ret
    exact ⟨_, rfl, by simp [prkO, h0]; exact OwnI.nil _ _, (by repeat (first | exact Ext.refl _ | assumption | refine Ext.alloc ?_ _ | refine Ext.drew ?_ | refine Ext.trans ?_ (by assumption)))⟩
  obtain ⟨n, rfl, n1, n2⟩ := prof_nat h0
  have HP0 : Hid (prkO n vs = prL (lokO n vs) n n) := hide (by simp [prkO, h0])
  have HLK : Hid (lokO n vs = lockL (srtP n vs)) := hide (by simp [lokO, h0])
  have HRK : Hid (Ranked (lokO n vs)) := hide (by rw [HLK.out, lockL_all]; exact lockL_ranked _ _ (Nat.le_refl _))
  have HPN : Hid (∀ x ∈ lokO n vs, PairN n x) := fun x hx => by rw [HLK.out] at hx; exact (srtP_mem (lok_sub _ x hx)).1
  have HKL := hide (lokO_bd n vs).1
  go_enter Tryz.func51, Tryz.ntmps51
  go_wp2_with (go_at_call 36; refine (prof_impl _ _ _ _ _ (hR.ext (by repeat (first | exact Ext.refl _ | assumption | refine Ext.alloc ?_ _ | refine Ext.drew ?_ | refine Ext.trans ?_ (by assumption))))).mono ?_; rintro e w1 ⟨rfl, hw1⟩; have q0 := Ext.keep (w' := w1) (by repeat (first | exact Ext.refl _ | assumption | refine Ext.alloc ?_ _ | refine Ext.drew ?_ | refine Ext.trans ?_ (by assumption))) q0; have q1 := Ext.keep (w' := w1) (by repeat (first | exact Ext.refl _ | assumption | refine Ext.alloc ?_ _ | refine Ext.drew ?_ | refine Ext.trans ?_ (by assumption))) q1)
  refine (lok_impl _ _ _ _ _ (hR.ext (by repeat (first | exact Ext.refl _ | assumption | refine Ext.alloc ?_ _ | refine Ext.drew ?_ | refine Ext.trans ?_ (by assumption))))).mono ?_
  rintro e w2 ⟨v, rfl, hv, hw2⟩
  have hw : Ext w w2 := (by repeat (first | exact Ext.refl _ | assumption | refine Ext.alloc ?_ _ | refine Ext.drew ?_ | refine Ext.trans ?_ (by assumption)))
  have q0 := hw2.keep q0
  have hV := hv.wr.rd
  obtain ⟨av, cv, rfl, hju⟩ := hV
  have hV : RdSS w2 w2.heap.size (.slice av (lokO n vs).length cv) (lokO n vs) := ⟨av, cv, rfl, hju⟩
  clear hju hv hw1 hw2 q1 h0 HLK
  generalize lokO n vs = kept at hV HP0 HRK HPN HKL ⊢
  obtain ⟨wa, hwa⟩ : ∃ wa : World, wa = w2 := ⟨_, rfl⟩
  subst hwa
  have hEk := Ext.new wa (.cells #[.slice av kept.length cv] 93)
  have hk3 := new0 wa (.slice av kept.length cv) [] 93
  have q0 := hEk.keep q0
  have hV := hV.ext hEk
  have hw := hw.trans hEk
  have hs3 : (wa.alloc (.cells #[.slice av kept.length cv] 93)).heap.size = wa.heap.size + 1 := by simp
  go_wp2_with fail
  generalize wa.alloc (.cells #[.slice av kept.length cv] 93) = wk at hk3 q0 hV hw hs3 ⊢
  obtain ⟨g3, hg3⟩ : ∃ g3 : Nat, g3 = wa.heap.size := ⟨_, rfl⟩
  rw [← hg3] at hk3 hs3 ⊢
  clear hEk hg3
  refine (indices_impl _ n n2).mono ?_
  rintro e w3 ⟨rfl, hB, hw3⟩
  rw [hs3] at hB
  have hBx := BlkF.new w3 #[.slice (some ⟨g3 + 1, 0, none⟩) n n] 36
  have hEx := Ext.new w3 (.cells #[.slice (some ⟨g3 + 1, 0, none⟩) n n] 36)
  have hB3 := hB.ext hEx
  have hgl := hB.lt
  have hszx := hBx.lt
  have hEW := hw3.trans hEx
  go_wp2_with fail
  generalize w3.alloc (.cells #[.slice (some ⟨g3 + 1, 0, none⟩) n n] 36) = wb at hBx hB3 hszx hEW ⊢
  obtain ⟨gl, hgl2⟩ : ∃ gl : Nat, gl = w3.heap.size := ⟨_, rfl⟩
  rw [← hgl2] at hBx hszx hgl ⊢
  obtain ⟨g, hg⟩ : ∃ g : Nat, g = g3 + 1 := ⟨_, rfl⟩
  rw [← hg] at hBx hB3 hgl hs3 ⊢
  have hkg : wk.heap.size ≤ g := by omega
  clear hgl2 hB hEx hw3 hg
  have hBx := hBx.congr (f' := fun _ => .slice (some ⟨g, 0, none⟩) (n - 0) n) (fun o ho => by simp at ho; subst ho; rfl)
  go_loopw [5, 6] (fun v _ wr => ∃ (k : Nat) (f : Nat → Value), k ≤ n ∧ OwnI wr wb.heap.size v (prL kept n k) ∧ BlkF wr g (n - k) f ∧ BlkF wr gl 1 (fun _ => .slice (some ⟨g, 0, none⟩) (n - k) n) ∧ Hid (∀ (j : Nat) (x : Int), (leftL n (prL kept n k))[j]? = some x → f j = .int .i64 x) ∧ Ext wk wr ∧ wb.heap.size ≤ wr.heap.size) (fun v _ _ => match v with | .slice _ L _ => n - L | _ => 0)
  case atStart =>
    refine ⟨0, _, Nat.zero_le _, OwnI.nil _ _, hB3, hBx, fun j x hx => ?_, hEW, Nat.le_refl _⟩
    rw [prL, leftL_nil, ← iotaL_up] at hx
    obtain ⟨_, rfl⟩ := rowL_val hx
    rfl
  case round =>
    clear hB3 hBx hEW
    obtain ⟨k, f, hk, hown, hB, hX, hfl, hwr, hsz⟩ := hrel
    have hll := leftL_prL (n := n) HRK.out k hk
    have hel := prL_len kept n k
    have hx0 := hX.cell 0 (by omega)
    have hxf := hX.fr 0
    have hk3r := hwr.keep hk3
    obtain ⟨a5, L5, c5, rfl, hL, hju⟩ := hown.formR'
    rw [hel] at hL
    clear hju
    subst hL
    by_cases hlt : L5 < n
    · obtain ⟨left, hleft⟩ : ∃ left, left = leftL n (prL kept n L5) := ⟨_, rfl⟩
      have hnl := next_left (kept := kept) (n := n) (out := prL kept n L5) HRK.out (fun e => by rw [e] at hll; simp at hll; omega)
      rw [← hleft] at hll hfl hnl
      obtain ⟨p, hfi, hpick⟩ := hnl
      have hplt := lt_of_at hpick
      have HLT := hide hleft
      have HFI := hide hfi
      have HPK := hide hpick
      obtain ⟨m, hm⟩ : ∃ m : Nat, m = n - L5 := ⟨_, rfl⟩
      rw [← hm] at hll hB hX hx0
      have hm1 : 1 ≤ m := by omega
      have hm0 : decide (0 < m) = true := by simp; omega
      have hmn : m ≤ n := by omega
      have hmk : m + L5 ≤ n := by omega
      have hmk2 : n ≤ m + L5 := by omega
      have hRl := hB.rdL (xs := left) (by omega) hfl.out
      have hV5 := hV.ext hwr
      have hx0' : wr.cell? ⟨gl, 0, none⟩ = some (.slice (some ⟨g, 0, none⟩) left.length n) := by rw [hll]; exact hx0
      have hcall := indexFuncI 108 #[] #[.pointer (some ⟨g3, 0, none⟩), .pointer (some ⟨gl, 0, none⟩)] (freeB kept left) wr (some ⟨g, 0, none⟩) n left hRl (by omega) Tryz.call108
        (fun x w' _ hw' => prkOne w' _ g3 gl n av (some ⟨g, 0, none⟩) cv n kept left x (hw'.keep hk3r) (hw'.keep hx0') (hV5.ext hw') (hRl.ext hw') (by omega) HKL.out HPN.out)
      rw [hll, hfi] at hcall
      have HC := hide hcall
      have HLL := hide hll
      have hpm : p < m := by omega
      have hpf := hfl.out p _ hpick
      have d0 := hB.cell p hpm
      rw [hpf] at d0
      have hone : ∀ t, t < m → (f t).oneCell' = true := fun t ht => by
        obtain ⟨x, hx⟩ := at_of_lt (xs := left) (k := t) (by rw [hll]; exact ht)
        rw [hfl.out t x hx]; rfl
      have HONE := hide hone
      have i1 : (p : Int) < (m : Int) := Int.ofNat_lt.2 hpm
      have i2 : (0 : Int) ≤ (p : Int) := Int.natCast_nonneg _
      clear hleft hm hll hfi hpick hplt hcall hx0' hV5 hRl hpf hone
      go_wp2_with fail
      refine HC.out.mono ?_
      rintro e w4 ⟨rfl, hw4⟩
      have hx4 := hw4.keep hx0
      have d4 := hw4.keep d0
      have hsw4 := hw4.size
      have hown4 := hown.ext hw4
      have hB4 := hB.ext hw4
      have hX4 := hX.ext hw4
      have hE4 := hwr.trans hw4
      have hrow : ∀ b, (Value.slice a5 L5 c5).ownBlock = some b → wb.heap.size ≤ b := fun b hb => ownsRow_block hown b hb
      have HROW := hide hrow
      have HX5 : Hid (∀ w5, w4.grownBy w5 (Value.slice a5 L5 c5).ownBlock → BlkF w5 gl 1 (fun _ => .slice (some ⟨g, 0, none⟩) m n) ∧ w5.cell? ⟨gl, 0, none⟩ = some (.slice (some ⟨g, 0, none⟩) m n)) := fun w5 hg5 => by
        have hX5 := hX4.grown hg5 (fun b hb => by have := hrow b hb; omega)
        exact ⟨hX5, hX5.cell 0 (by omega)⟩
      have HLEN : Hid ((prL kept n L5).length ≤ 2000000) := hide (by omega)
      clear hrow hx0 hxf d0 hown hB hX hwr hw4 HC
      go_wp2_with (at_builtin; go_loud (refine wpList_appF wb.heap.size w4 rfl (.tmp 21) (.tmp 26) rfl (.slice a5 L5 c5) (prL kept n L5) (nextV kept n (prL kept n L5)) rfl hown4 (Nat.le_trans hsz hsw4) rfl HLEN.out ?_); intro v' w5 hown5 hg5 hf5; obtain ⟨hX5, hx5⟩ := HX5.out _ hg5)
      have hB5 := hB4.grown hg5 (fun b hb => by have := HROW.out b hb; omega)
      have hE5 : Ext wk w5 := Ext.grown hE4 hg5 (fun b hb => by have := HROW.out b hb; omega)
      have hz5 := hg5.size
      clear hB4 hX4 hE4 hown4 d4 hx4 HROW hg5 hf5
      have HC2 := hide (del1 w5 g m n p f hB5 hpm hmn HONE.out)
      clear hB5 HONE
      refine HC2.out.mono ?_
      rintro e w6 ⟨rfl, hB6, hO6⟩
      have hz6 := hO6.size
      have hX6 := hO6.blk hX5 (by omega)
      have hx6 := hX6.cell 0 (by omega)
      have hxf6 := hX6.fr 0
      have hown6 := hown5.only (by omega) hO6
      have hE6 := Only.ext hE5 hO6 hkg
      clear hown5 hX5 hx5 hE5 hO6 HC2
      go_wp2
      have hOg : Only gl w6 (w6.setCell ⟨gl, 0, none⟩ (.slice (some ⟨g, 0, none⟩) (m - 1) n)) := (Only.refl gl w6).setCell 0 _
      have hown7 := hown6.only (by omega) hOg
      have hX7 := hX6.set 0 (by omega) (.slice (some ⟨g, 0, none⟩) (m - 1) n)
      have hB7 := hB6.far (p := ⟨gl, 0, none⟩) (by show gl ≠ g; omega) (.slice (some ⟨g, 0, none⟩) (m - 1) n)
      have hE7 := Only.ext hE6 hOg (by omega)
      have hz7 := hOg.size
      obtain ⟨a8, L8, c8, rfl, hL8, _⟩ := hown7.formR'
      rw [List.length_append, prL_len] at hL8
      have hL8' : L8 = L5 + 1 := hL8
      refine ⟨⟨L5 + 1, fun t => if t < p then f t else f (t + 1), by omega, ?_, ?_, ?_, fun j x hx => ?_, hE7, by omega⟩, by show n - L8 < n - L5; omega⟩
      · show OwnI _ _ _ (prL kept n L5 ++ [nextV kept n (prL kept n L5)])
        exact hown7
      · rw [show n - (L5 + 1) = m - 1 by omega]
        exact hB7
      · rw [show n - (L5 + 1) = m - 1 by omega]
        exact hX7.congr (fun o ho => by have : o = 0 := by omega
                                        subst this; rfl)
      · have hpk := HPK.out
        rw [HLT.out] at hpk
        have he : leftL n (prL kept n (L5 + 1)) = left.eraseIdx p := by
          show leftL n (prL kept n L5 ++ [nextV kept n (prL kept n L5)]) = _
          rw [HLT.out]
          exact (leftL_erase hpk).symm
        rw [he, List.getElem?_eraseIdx] at hx
        show (if j < p then f j else f (j + 1)) = _
        by_cases e : j < p
        · rw [if_pos e] at hx ⊢
          exact hfl.out j x hx
        · rw [if_neg e] at hx ⊢
          exact hfl.out (j + 1) x hx
    · have hkn : L5 = n := by omega
      have hm0 : decide (0 < n - L5) = false := by simp; omega
      have hown2 : OwnI wr wb.heap.size (.slice a5 L5 c5) (prkO n vs) := by
        rw [HP0.out]
        rwa [show prL kept n L5 = prL kept n n by rw [hkn]] at hown
      have HO := hide hown2
      have hws := hw.size
      clear hkn hown hown2
      go_wp2
      go_ret
      exact ⟨_, rfl, HO.out.base (by omega), hw.trans hwr⟩

def sgN (f : Nat → Int) : Nat → Int
  | 0 => 0
  | k + 1 => sgN f k + f k
set_option maxRecDepth 100000 in
theorem sgN_congr {f g : Nat → Int} : ∀ {n : Nat}, (∀ i, i < n → f i = g i) → sgN f n = sgN g n
  | 0, _ => rfl
  | n + 1, h => by rw [sgN, sgN, sgN_congr (fun i hi => h i (by omega)), h n (by omega)]
set_option maxRecDepth 100000 in
theorem sgN_add (f g : Nat → Int) : ∀ n, sgN (fun i => f i + g i) n = sgN f n + sgN g n
  | 0 => rfl
  | n + 1 => by rw [sgN, sgN, sgN, sgN_add f g n]; omega
set_option maxRecDepth 100000 in
theorem sgN_zero : ∀ n, sgN (fun _ => 0) n = 0
  | 0 => rfl
  | n + 1 => by rw [sgN, sgN_zero n]; rfl
set_option maxRecDepth 100000 in
theorem sgN_mul (c : Int) (f : Nat → Int) : ∀ n, sgN (fun i => c * f i) n = c * sgN f n
  | 0 => by simp [sgN]
  | n + 1 => by rw [sgN, sgN, sgN_mul c f n, Int.mul_add]
set_option maxRecDepth 100000 in
theorem sgN_const (c : Int) : ∀ n : Nat, sgN (fun _ => c) n = n * c
  | 0 => by simp [sgN]
  | n + 1 => by rw [sgN, sgN_const c n, Int.natCast_add, Int.add_mul]; simp
set_option maxRecDepth 100000 in
theorem sgN_le {f g : Nat → Int} : ∀ {n : Nat}, (∀ i, i < n → f i ≤ g i) → sgN f n ≤ sgN g n
  | 0, _ => Int.le_refl _
  | n + 1, h => by
    have h1 := sgN_le (f := f) (g := g) (n := n) (fun i hi => h i (by omega))
    have h2 := h n (by omega)
    rw [sgN, sgN]; omega
set_option maxRecDepth 100000 in
theorem sgN_swap (f : Nat → Nat → Int) (m : Nat) : ∀ n, sgN (fun i => sgN (f i) m) n = sgN (fun j => sgN (fun i => f i j) n) m
  | 0 => by simp only [sgN]; exact (sgN_zero m).symm
  | n + 1 => by
    rw [sgN, sgN_swap f m n, ← sgN_add]
    exact sgN_congr (fun j _ => rfl)
set_option maxRecDepth 100000 in
theorem perm_sum {a b : List Int} (h : a.Perm b) : a.sum = b.sum := by
  induction h with
  | nil => rfl
  | cons x _ ih => rw [List.sum_cons, List.sum_cons, ih]
  | swap x y l => rw [List.sum_cons, List.sum_cons, List.sum_cons, List.sum_cons]; omega
  | trans _ _ h1 h2 => rw [h1, h2]
set_option maxRecDepth 100000 in
theorem rowL_sum (f : Nat → Int) : ∀ n, (rowL n f).sum = sgN f n
  | 0 => rfl
  | n + 1 => by rw [rowL_succ, List.sum_append, rowL_sum f n, sgN]; simp
set_option maxRecDepth 100000 in
theorem place_sum {n : Nat} {r : List Int} (h : rkOk n r = true) (f : Nat → Int) : sgN (fun a => f (placeI r a).toNat) n = sgN f n := by
  have hp : (upL n (fun _ => true)).Perm r := (rk_perm h).symm
  have h1 := perm_sum (hp.map (fun x => f (placeI r x).toNat))
  have h2 : (upL n (fun _ => true)).map (fun x => f (placeI r x).toNat) = rowL n (fun a => f (placeI r a).toNat) := by
    rw [← iotaL_up]
    simp [iotaL, rowL]
  have h3 : r.map (fun x => f (placeI r x).toNat) = rowL n f := by
    refine List.ext_getElem? (fun j => ?_)
    have hl : r.length = n := by have := (rk_len h).1; omega
    by_cases hj : j < n
    · obtain ⟨x, hx⟩ := at_of_lt (xs := r) (k := j) (by omega)
      have hm := rk_mem h (List.mem_of_getElem? hx)
      obtain ⟨a, rfl⟩ : ∃ a : Nat, x = a := ⟨x.toNat, by omega⟩
      obtain ⟨k, _, hk, _, hu⟩ := place_at h (show a < n by omega)
      have e := hu j hx
      rw [List.getElem?_map, hx, rowL_at hj, Option.map_some, hk, ← e]
      simp
    · rw [List.getElem?_eq_none (by rw [List.length_map]; omega), List.getElem?_eq_none (by rw [rowL_len]; omega)]
  rw [h2, h3, rowL_sum, rowL_sum] at h1
  exact h1

set_option maxRecDepth 100000 in
theorem SmallV.head {sz : Int} {x : Vt} {vs : List Vt} (h : SmallV sz (x :: vs)) : rkOk sz x.1 = true ∧ 1 ≤ x.2 ∧ x.2 ≤ 1000 := h.2 x (by simp)
set_option maxRecDepth 100000 in
theorem allV_cons (x : Vt) (vs : List Vt) : allV (x :: vs) = x.2 + allV vs := by simp [allV, sumV]
set_option maxRecDepth 100000 in
theorem scoV_cons (f : Nat → Int) (x : Vt) (vs : List Vt) (a : Nat) : scoV f (x :: vs) a = x.2 * f (placeI x.1 a).toNat + scoV f vs a := by simp [scoV]
set_option maxRecDepth 100000 in
theorem allV_nonneg {sz : Int} : ∀ {vs : List Vt}, SmallV sz vs → 0 ≤ allV vs
  | [], _ => by simp [allV, sumV]
  | x :: vs, h => by have := allV_nonneg h.tail; have := h.head; rw [allV_cons]; omega
set_option maxRecDepth 100000 in
theorem allV_pos1 {sz : Int} {vs : List Vt} (h : SmallV sz vs) (hne : 1 ≤ vs.length) : 1 ≤ allV vs := by
  cases vs with
  | nil => simp at hne
  | cons x vs => have := allV_nonneg h.tail; have := h.head; rw [allV_cons]; omega
set_option maxRecDepth 100000 in
/-- Scores add up to the weights of all voters. -/
theorem sco_sum {n : Nat} (f : Nat → Int) : ∀ {vs : List Vt}, SmallV n vs → sgN (scoV f vs) n = sgN f n * allV vs
  | [], _ => by
    have : allV [] = 0 := rfl
    rw [this, Int.mul_zero]
    exact (sgN_congr (fun i _ => rfl)).trans (sgN_zero n)
  | x :: vs, h => by
    have ih := sco_sum f h.tail
    have h1 : sgN (scoV f (x :: vs)) n = sgN (fun a => x.2 * f (placeI x.1 a).toNat) n + sgN (scoV f vs) n := by
      rw [← sgN_add]
      exact sgN_congr (fun a _ => scoV_cons f x vs a)
    rw [h1, ih, sgN_mul, place_sum h.head.1, allV_cons, Int.mul_add, Int.mul_comm]
set_option maxRecDepth 100000 in
theorem pair_tot {n : Nat} {a b : Nat} (ha : a < n) (hb : b < n) (hne : a ≠ b) : ∀ {vs : List Vt}, SmallV n vs → pairV vs a b + pairV vs b a = allV vs
  | [], _ => rfl
  | x :: vs, h => by
    have ih := pair_tot ha hb hne h.tail
    have h1 := pref_tot h.head.1 ha hb hne
    unfold pairV at ih ⊢
    rw [sumV_cons, sumV_cons, allV_cons, h1]
    cases prefB x.1 b a <;> simp <;> omega
set_option maxRecDepth 100000 in
theorem pairW_self (vs : List Vt) (a : Int) : pairV vs a a = 0 := by
  induction vs with
  | nil => rfl
  | cons x vs ih =>
    unfold pairV at ih ⊢
    rw [sumV_cons, ih, pref_self]; rfl
set_option maxRecDepth 100000 in
theorem cnt_above (n k : Nat) : sgN (fun j => if k < j then 1 else 0) n = ((n - 1 - k : Nat) : Int) := by
  have key : ∀ m, sgN (fun j => if k < j then 1 else 0) m = ((m - 1 - k : Nat) : Int) := by
    intro m
    induction m with
    | zero => simp [sgN]
    | succ m ih =>
      rw [sgN, ih]
      by_cases h : k < m
      · rw [if_pos h]; omega
      · rw [if_neg h]; omega
  exact key n
set_option maxRecDepth 100000 in
/-- A voter's points by Borda are the candidates behind. -/
theorem bor_vote {n : Nat} {r : List Int} (h : rkOk n r = true) {a : Nat} (ha : a < n) : sgN (fun b => if prefB r a b then 1 else 0) n = borW n (placeI r a).toNat := by
  obtain ⟨k, hk, hp, _, _⟩ := place_at h ha
  have h1 : sgN (fun b => if prefB r a b then (1 : Int) else 0) n = sgN (fun b => (fun j => if k < j then (1 : Int) else 0) (placeI r b).toNat) n := by
    refine sgN_congr (fun b hb => ?_)
    obtain ⟨q, _, hq, _, _⟩ := place_at h hb
    have e : prefB r a b = decide (k < q) := by
      unfold prefB
      rw [hp, hq]
      have e1 : decide ((0 : Int) ≤ (k : Int)) = true := decide_eq_true (by omega)
      have e2 : decide ((0 : Int) ≤ (q : Int)) = true := decide_eq_true (by omega)
      rw [e1, e2, Bool.true_and, Bool.true_and, decide_eq_decide]
      omega
    rw [hq, e]
    simp
  rw [h1, place_sum h (fun j => if k < j then (1 : Int) else 0), cnt_above n k, hp]
  rfl
set_option maxRecDepth 100000 in
theorem bor_pairs {n : Nat} {a : Nat} (ha : a < n) : ∀ {vs : List Vt}, SmallV n vs → scoV (borW n) vs a = sgN (fun b => pairV vs a b) n
  | [], _ => (sgN_zero n).symm
  | x :: vs, h => by
    rw [scoV_cons, bor_pairs ha h.tail, ← bor_vote h.head.1 ha, ← sgN_mul, ← sgN_add]
    refine sgN_congr (fun b _ => ?_)
    unfold pairV
    rw [sumV_cons]
    cases prefB x.1 a b <;> simp
/-- A veto and a last place are the voters. -/
def lstV (n : Nat) (vs : List Vt) (a : Nat) : Int := scoV (fun j => if j + 1 = n then 1 else 0) vs a
set_option maxRecDepth 100000 in
theorem veto_last {n : Nat} {a : Nat} (ha : a < n) : ∀ {vs : List Vt}, SmallV n vs → scoV (vetW n) vs a + lstV n vs a = allV vs
  | [], _ => rfl
  | x :: vs, h => by
    have ih := veto_last ha h.tail
    obtain ⟨k, hk, hp, _, _⟩ := place_at h.head.1 ha
    unfold lstV at ih ⊢
    rw [scoV_cons, scoV_cons, allV_cons, hp]
    unfold vetW
    simp only [Int.toNat_natCast]
    by_cases e : k + 1 = n
    · rw [if_neg (by omega), if_pos e]
      unfold vetW at ih
      omega
    · rw [if_pos (by omega), if_neg e]
      unfold vetW at ih
      omega

set_option maxRecDepth 100000 in
set_option maxHeartbeats 1000000 in
theorem borOne (w : World) (g n j : Nat) (hj : j < n) (n2 : n ≤ 5) (h0 : w.cell? ⟨g, 0, none⟩ = some (.int .i64 n)) : Calls Tryz.prog 84 (#[.int .i64 j] ++ #[.pointer (some ⟨g, 0, none⟩)]) w fun e w' => e = .returned (.int .i64 (borW n j)) ∧ Ext w w' := by
  have hb : borW n j = (n : Int) - 1 - j := by unfold borW; omega
  have HB := hide hb
  clear hb
  show Calls Tryz.prog 84 #[.int .i64 j, .pointer (some ⟨g, 0, none⟩)] w _
  go_enter Tryz.func84, Tryz.ntmps84
  go_wp2
  go_ret
  exact ⟨ret_int (by rw [HB.out]), Ext.refl _⟩

set_option maxRecDepth 100000 in
set_option maxHeartbeats 1000000 in
theorem vetOne (w : World) (g n j : Nat) (hj : j < n) (n2 : n ≤ 5) (h0 : w.cell? ⟨g, 0, none⟩ = some (.int .i64 n)) : Calls Tryz.prog 85 (#[.int .i64 j] ++ #[.pointer (some ⟨g, 0, none⟩)]) w fun e w' => e = .returned (.int .i64 (vetW n j)) ∧ Ext w w' := by
  have hb : vetW n j = min 1 ((n : Int) - 1 - j) := by unfold vetW; split <;> omega
  have HB := hide hb
  clear hb
  show Calls Tryz.prog 85 #[.int .i64 j, .pointer (some ⟨g, 0, none⟩)] w _
  go_enter Tryz.func85, Tryz.ntmps85
  go_wp2
  all_goals go_ret
  all_goals exact ⟨ret_int (by rw [HB.out]; omega), Ext.refl _⟩

set_option maxRecDepth 100000 in
set_option maxHeartbeats 1000000 in
theorem bor_impl (w : World) (n : Nat) (n1 : 1 ≤ n) (n2 : n ≤ 5) :
    Calls Tryz.prog 39 #[.int .i64 n] w fun e w' => ∃ v, e = .returned v ∧ OwnI w' w.heap.size v (rowL n (borW n)) ∧ Ext w w' := by
  have q0 := new0 w (.int .i64 n) [] 3
  have hE := Ext.new w (.cells #[.int .i64 n] 3)
  go_enter Tryz.func39, Tryz.ntmps39
  go_wp2_with fail
  refine (weightsOf_impl 84 #[.pointer (some ⟨w.heap.size, 0, none⟩)] (borW n) _ n n1 n2 Tryz.call84 (fun j w' hj hw' => borOne w' w.heap.size n j hj n2 (hw'.keep q0))).mono ?_
  rintro e w1 ⟨v, rfl, hv, hw1⟩
  go_wp2
  go_ret
  exact ⟨_, rfl, hv.base hE.size, hE.trans hw1⟩

set_option maxRecDepth 100000 in
set_option maxHeartbeats 1000000 in
theorem vet_impl (w : World) (n : Nat) (n1 : 1 ≤ n) (n2 : n ≤ 5) :
    Calls Tryz.prog 40 #[.int .i64 n] w fun e w' => ∃ v, e = .returned v ∧ OwnI w' w.heap.size v (rowL n (vetW n)) ∧ Ext w w' := by
  have q0 := new0 w (.int .i64 n) [] 3
  have hE := Ext.new w (.cells #[.int .i64 n] 3)
  go_enter Tryz.func40, Tryz.ntmps40
  go_wp2_with fail
  refine (weightsOf_impl 85 #[.pointer (some ⟨w.heap.size, 0, none⟩)] (vetW n) _ n n1 n2 Tryz.call85 (fun j w' hj hw' => vetOne w' w.heap.size n j hj n2 (hw'.keep q0))).mono ?_
  rintro e w1 ⟨v, rfl, hv, hw1⟩
  go_wp2
  go_ret
  exact ⟨_, rfl, hv.base hE.size, hE.trans hw1⟩

set_option maxRecDepth 100000 in
set_option maxHeartbeats 1000000 in
theorem swin_impl (w : World) (n : Nat) (a aw : Option Addr) (c cw : Nat) (vs : List Vt) (f : Nat → Int) (n2 : n ≤ 5) (hR : RdV w a vs) (hW : RdI w aw (rowL n f)) (hf : GoodW f) (h0 : profOk n vs = true) :
    Calls Tryz.prog 37 #[.agg #[.int .i64 n, .slice a vs.length c], .slice aw n cw] w fun e w' => ∃ v, e = .returned v ∧ OwnI w' w.heap.size v (bestL (rowL n (scoV f vs))) ∧ Ext w w' := by
  go_enter Tryz.func37, Tryz.ntmps37
  go_wp2_with fail
  refine (sco_impl _ _ a aw c cw vs f n rfl (hR.ext (by repeat (first | exact Ext.refl _ | assumption | refine Ext.alloc ?_ _ | refine Ext.drew ?_ | refine Ext.trans ?_ (by assumption)))) (hW.ext (by repeat (first | exact Ext.refl _ | assumption | refine Ext.alloc ?_ _ | refine Ext.drew ?_ | refine Ext.trans ?_ (by assumption)))) hf h0).mono ?_
  rintro e w1 ⟨v, rfl, hv, hw1⟩
  obtain ⟨av, cv, rfl, _, hRs, hju⟩ := hv.fr
  have hw : Ext w w1 := (Ext.new _ _).trans hw1
  clear hju hv
  have H := hide (gr_impl w1 av cv (rowL n (scoV f vs)) hRs (by rw [rowL_len]; omega))
  go_wp2_with fail
  refine H.out.mono ?_
  rintro e w2 ⟨v, rfl, hv, hw2⟩
  go_wp2
  go_ret
  exact ⟨_, rfl, hv.base hw.size, hw.trans hw2⟩

set_option maxRecDepth 100000 in
theorem lastI_at {xs : List Int} {m : Nat} (h : xs.length = m + 1) {x : Int} (hx : xs[m]? = some x) : lastI xs = x := by
  unfold lastI
  rw [List.getLast?_eq_getElem?, h, Nat.add_sub_cancel, hx]; rfl

set_option maxRecDepth 100000 in
set_option maxHeartbeats 1000000 in
theorem lastOf_impl (w : World) (a : Option Addr) (c : Nat) (xs : List Int) (hR : RdI w a xs) (hl : xs.length ≤ 2000000) :
    Calls Tryz.prog 45 #[.slice a xs.length c] w fun e w' => e = .returned (.int .i64 (lastI xs)) ∧ Ext w w' := by
  cases h : xs.length with
  | zero =>
    have : xs = [] := List.length_eq_zero_iff.1 h
    subst this
    go_enter Tryz.func45, Tryz.ntmps45
    go_wp2
    go_ret
    exact ⟨rfl, Ext.refl _⟩
  | succ m =>
    obtain ⟨x, hx⟩ := at_of_lt (xs := xs) (k := m) (by omega)
    obtain ⟨b, off, rfl, c0⟩ := hR.at_ hx
    have HL := hide (lastI_at h hx)
    rw [h] at hl
    have t0 : (((m + 1 : Nat) : Int) == 0) = false := by rw [beq_eq_false_iff_ne]; omega
    have y0 : wrap64 (((m + 1 : Nat) : Int) - 1) = (m : Int) := by rw [IntWalk.wrap64_in _ (by omega)]; omega
    clear hx h
    go_enter Tryz.func45, Tryz.ntmps45
    go_wp2
    go_ret
    exact ⟨ret_int HL.out.symm, Ext.refl _⟩

end Go.Proofs.YtilcdnkkabmbfaaGreat
