/- Eliminations of the program: by a worth, any worth. The ranking by scores, of the spec. A drawn region in which some loads may come behind an operation that writes: they read below H, and it writes from H on. -/
import Derived.Test.YtilcdnkkabmbfaaGreatCk6
import Derived.Test.YtilcdnkkabmbfaaGreatCk9
import Derived.Test.YtilcdnkkabmbfaaGreatCk5
import Derived.Test.YtilcdnkkabmbfaaGreatCk0
namespace Go.Proofs.YtilcdnkkabmbfaaGreat
open Go.RowKit

def iotaL (n : Nat) : List Int := rowL n (fun j => (j : Int))
set_option maxRecDepth 100000 in
theorem iotaL_up (n : Nat) : iotaL n = upL n (fun _ => true) := by
  unfold iotaL rowL upL
  rw [List.filter_eq_self.2 (fun _ _ => rfl)]
set_option maxRecDepth 100000 in
set_option maxHeartbeats 1000000 in
theorem indices_impl (w : World) (n : Nat) (n2 : n ≤ 5) :
    Calls Tryz.prog 106 #[.int .i64 n] w fun e w' => e = .returned (.slice (some ⟨w.heap.size, 0, none⟩) n n) ∧ BlkF w' w.heap.size n (fun o => .int .i64 (o : Int)) ∧ Ext w w' := by
  obtain ⟨i0, hi, hz0, hz1, hz2⟩ := info_parts info_int
  have hmk := fun W => run_make_rowN (P := Tryz.prog) 36 3 i0 _ Tryz.underlying36 hi hz0 .i64 .i64 n n (Nat.le_refl _) (by rw [hz2]; omega) (by omega) W
  rw [hz1, Nat.mul_one] at hmk
  go_enter Tryz.func106, Tryz.ntmps106
  go_wp2_with fail
  clear hmk
  have hB := BlkF.new w (madeCells #[.int .i64 0] n) 3
  rw [size_madeCells] at hB
  have hE := Ext.new w (.cells (madeCells #[.int .i64 0] n) 3)
  have hB := hB.congr (f' := fun o => .int .i64 (if o < 0 then (o : Int) else 0)) (fun o ho => by rw [if_neg (by omega)]; exact made_int n o ho)
  generalize w.alloc (.cells (madeCells #[.int .i64 0] n) 3) = W1 at hB hE ⊢
  go_loopw [4, 9] (fun _ i wr => ∃ j : Nat, j ≤ n ∧ i = .int .i64 j ∧ BlkF wr w.heap.size n (fun o => .int .i64 (if o < j then (o : Int) else 0)) ∧ Ext w wr) (fun _ i _ => n - (intOf i).toNat)
  case atStart => exact ⟨0, Nat.zero_le _, rfl, hB, hE⟩
  case round =>
    clear hB hE
    obtain ⟨i, hi, rfl, hB, hwr⟩ := hrel
    by_cases hlt : i < n
    · have d0 := hB.cell i hlt
      rw [if_neg (by omega)] at d0
      have z0 := hB.fr i
      have HB := hide hB
      clear hB
      go_wp2
      refine ⟨⟨i + 1, by omega, by go_num, (HB.out.set i hlt _).congr (fun o ho => ?_), Ext.setCell hwr (Nat.le_refl _) _⟩, by simp [intOf]; omega⟩
      by_cases e : o = i
      · subst e; rw [if_pos rfl, if_pos (by omega)]
      · rw [if_neg e]
        by_cases e2 : o < i
        · rw [if_pos e2, if_pos (by omega)]
        · rw [if_neg e2, if_neg (by omega)]
    · have hin : i = n := by omega
      go_wp2
      go_ret
      exact ⟨rfl, hB.congr (fun o ho => by rw [if_pos (by omega)]), hwr⟩

set_option maxRecDepth 100000 in
/-- v reads as the list, in a block that may be written. -/
theorem BlkF.rdL {w : World} {g n : Nat} {f : Nat → Value} {xs : List Int} (h : BlkF w g n f) (hn : xs.length ≤ n) (hf : ∀ (j : Nat) (x : Int), xs[j]? = some x → f j = .int .i64 x) : RdI w (some ⟨g, 0, none⟩) xs := fun _ => ⟨g, 0, rfl, fun j x hx => by rw [Nat.zero_add, h.cell j (by have := lt_of_at hx; omega), hf j x hx]⟩

set_option maxRecDepth 100000 in
theorem BlkF.grown {w w' : World} {g n : Nat} {f : Nat → Value} {row : Option Nat} (h : BlkF w g n f) (hg : w.grownBy w' row) (hr : ∀ k, row = some k → k ≠ g) : BlkF w' g n f := by
  have hgr : w'.heap[g]? = w.heap[g]? := hg.block g h.lt (fun e => hr g e.symm rfl)
  exact ⟨Nat.lt_of_lt_of_le h.lt hg.size, fun o => (World.frozen?_of_block (w := w) hgr).trans (h.fr o), fun o ho => (World.cell?_of_block (w := w) hgr).trans (h.cell o ho)⟩

def elimO (sz : Int) (vs : List Vt) (W : List Int → Int → Int) : List Int := if profOk sz vs then elimL sz.toNat W sz.toNat else []
set_option maxRecDepth 100000 in
theorem elimO_len (sz : Int) (vs : List Vt) (W : List Int → Int → Int) : (elimO sz vs W).length ≤ 5 := by
  unfold elimO
  cases h0 : profOk sz vs
  · simp
  · obtain ⟨n, rfl, n1, n2⟩ := prof_nat h0
    simp [elimL_len]; omega
set_option maxRecDepth 100000 in
theorem pickV_take {f : Int → Int} {xs : List Int} {k : Nat} {x : Int} (h : xs[k]? = some x) : pickV f (xs.take (k + 1)) = if pickV f (xs.take k) < 0 ∨ f x ≤ f (pickV f (xs.take k)) then x else pickV f (xs.take k) := by
  rw [take_at h, pickV_snoc]

set_option maxRecDepth 100000 in
set_option maxHeartbeats 8000000 in
theorem elim_impl (K : Nat) (cap : Array Value) (W : List Int → Int → Int) (w : World) (sz : Int) (a : Option Addr) (c : Nat) (vs : List Vt) (hR : RdV w a vs) (hK : Enters Tryz.prog K)
    (hf : ∀ (n : Nat) (left : List Int) (x : Int) (al : Option Addr) (cl : Nat) (w' : World), sz = n → n ≤ 5 → SmallV n vs → (∀ y ∈ left, 0 ≤ y ∧ y < n) → left.length ≤ n → x ∈ left → Ext w w' → RdI w' al left →
      Calls Tryz.prog K (#[.slice al left.length cl, .int .i64 x] ++ cap) w' fun e w'' => e = .returned (.int .i64 (W left x)) ∧ Ext w' w'') :
    Calls Tryz.prog 94 #[.agg #[.int .i64 sz, .slice a vs.length c], .func (.func K) #[] cap] w fun e w' => ∃ v, e = .returned v ∧ OwnI w' w.heap.size v (elimO sz vs W) ∧ Ext w w' := by
  unfold Enters at hK
  have q0 := new0 w (.int .i64 sz) [.slice a vs.length c] 29
  have q1 := new1 w (.int .i64 sz) (.slice a vs.length c) [] 29
  have HF := hide hf
  clear hf
  cases h0 : profOk sz vs
  · go_enter Tryz.func94, Tryz.ntmps94
    go_wp2_with (go_at_call 36; refine (prof_impl _ _ _ _ _ (hR.ext (by repeat (first | exact Ext.refl _ | assumption | refine Ext.alloc ?_ _ | refine Ext.drew ?_ | refine Ext.trans ?_ (by assumption))))).mono ?_; rintro e w1 ⟨rfl, hw1⟩; have q0 := Ext.keep (w' := w1) (by repeat (first | exact Ext.refl _ | assumption | refine Ext.alloc ?_ _ | refine Ext.drew ?_ | refine Ext.trans ?_ (by assumption))) q0; have q1 := Ext.keep (w' := w1) (by repeat (first | exact Ext.refl _ | assumption | refine Ext.alloc ?_ _ | refine Ext.drew ?_ | refine Ext.trans ?_ (by assumption))) q1)
    go_ret
    exact ⟨_, rfl, by simp [elimO, h0]; exact OwnI.nil _ _, (by repeat (first | exact Ext.refl _ | assumption | refine Ext.alloc ?_ _ | refine Ext.drew ?_ | refine Ext.trans ?_ (by assumption)))⟩
  obtain ⟨n, rfl, n1, n2⟩ := prof_nat h0
  have HS := hide (prof_small h0)
  go_enter Tryz.func94, Tryz.ntmps94
  go_wp2_with (go_at_call 36; refine (prof_impl _ _ _ _ _ (hR.ext (by repeat (first | exact Ext.refl _ | assumption | refine Ext.alloc ?_ _ | refine Ext.drew ?_ | refine Ext.trans ?_ (by assumption))))).mono ?_; rintro e w1 ⟨rfl, hw1⟩; have q0 := Ext.keep (w' := w1) (by repeat (first | exact Ext.refl _ | assumption | refine Ext.alloc ?_ _ | refine Ext.drew ?_ | refine Ext.trans ?_ (by assumption))) q0; have q1 := Ext.keep (w' := w1) (by repeat (first | exact Ext.refl _ | assumption | refine Ext.alloc ?_ _ | refine Ext.drew ?_ | refine Ext.trans ?_ (by assumption))) q1)
  refine (indices_impl _ n n2).mono ?_
  rintro e w2 ⟨rfl, hB, hw2⟩
  have hw : Ext w w2 := (by repeat (first | exact Ext.refl _ | assumption | refine Ext.alloc ?_ _ | refine Ext.drew ?_ | refine Ext.trans ?_ (by assumption)))
  obtain ⟨g, hg⟩ : ∃ g : Nat, g = w1.heap.size := ⟨_, rfl⟩
  have hgw : w.heap.size ≤ g := by rw [hg]; exact Ext.size (by repeat (first | exact Ext.refl _ | assumption | refine Ext.alloc ?_ _ | refine Ext.drew ?_ | refine Ext.trans ?_ (by assumption)))
  rw [← hg] at hB ⊢
  clear hg
  have hgl := hB.lt
  obtain ⟨wb, hwb⟩ : ∃ wb : World, wb = w2 := ⟨_, rfl⟩
  subst hwb
  go_wp2_with fail
  go_loopw [5, 6, 7, 8, 9, 19, 20, 21] (fun v l _ _ _ _ _ _ wr => ∃ (k : Nat) (f : Nat → Value), k ≤ n ∧ l = .slice (some ⟨g, 0, none⟩) (n - k) n ∧ OwnI wr wb.heap.size v (elimL n W k) ∧ BlkF wr g (n - k) f ∧ Hid (∀ (j : Nat) (x : Int), (leftL n (elimL n W k))[j]? = some x → f j = .int .i64 x) ∧ Ext w wr ∧ wb.heap.size ≤ wr.heap.size) (fun _ l _ _ _ _ _ _ _ => match l with | .slice _ m _ => m | _ => 0)
  case atStart =>
    refine ⟨0, _, Nat.zero_le _, rfl, OwnI.nil _ _, hB, fun j x hx => ?_, hw, Nat.le_refl _⟩
    rw [elimL, leftL_nil, ← iotaL_up] at hx
    obtain ⟨_, rfl⟩ := rowL_val hx
    rfl
  case round =>
    clear hB
    obtain ⟨k, f, hk, rfl, hown, hB, hfl, hwr, hsz⟩ := hrel
    have hll := leftL_elim (n := n) W k hk
    have hel := elimL_len n W k
    by_cases hlt : k < n
    · obtain ⟨left, hleft⟩ : ∃ left, left = leftL n (elimL n W k) := ⟨_, rfl⟩
      rw [← hleft] at hll hfl
      have hbds : ∀ y ∈ left, 0 ≤ y ∧ y < (n : Int) := fun y hy => by
        rw [hleft] at hy
        obtain ⟨i, hi, _, rfl⟩ := leftL_mem.1 hy
        omega
      have HLT := hide hleft
      obtain ⟨m, hm⟩ : ∃ m : Nat, m = n - k := ⟨_, rfl⟩
      rw [← hm] at hll hB ⊢
      have hm1 : 1 ≤ m := by omega
      have hm0 : decide (0 < m) = true := by simp; omega
      have hmn : m ≤ n := by omega
      have hmk : m + k ≤ n := by omega
      have hmk2 : n ≤ m + k := by omega
      have HLL := hide hll
      have HBD := hide hbds
      have hRl := hB.rdL (xs := left) (by omega) hfl.out
      have HC : Hid (∀ (x : Int) (w' : World), x ∈ left → Ext wr w' → Calls Tryz.prog K (#[.slice (some ⟨g, 0, none⟩) m n, .int .i64 x] ++ cap) w' fun e w'' => e = .returned (.int .i64 (W left x)) ∧ Ext w' w'') := fun x w' hx hw' => by
        have h := HF.out n left x (some ⟨g, 0, none⟩) n w' rfl n2 HS.out hbds (by omega) hx (hwr.trans hw') (hRl.ext hw')
        rw [hll] at h
        exact h
      clear hleft hm hll hbds
      go_wp2_with fail
      obtain ⟨wo, hwo⟩ : ∃ wo : World, wo = wr := ⟨_, rfl⟩
      subst hwo
      go_loopw [7, 8, 9, 21] (fun at_ _ _ i wr => ∃ (j p : Nat), j ≤ m ∧ p < m ∧ i = .int .i64 j ∧ at_ = .int .i64 p ∧ Hid ((j = 0 → p = 0) ∧ (1 ≤ j → left[p]? = some (pickV (W left) (left.take j)))) ∧ Ext wo wr) (fun _ _ _ i _ => m - (intOf i).toNat)
      case atStart => exact ⟨0, 0, Nat.zero_le _, hm1, rfl, rfl, ⟨fun _ => rfl, fun h => absurd h (by omega)⟩, Ext.refl _⟩
      case round =>
        obtain ⟨j, p, hj, hp, rfl, rfl, hjp, hwr'⟩ := hrel
        by_cases hjt : j < m
        · obtain ⟨x, hx⟩ := at_of_lt (xs := left) (k := j) (by rw [HLL.out]; exact hjt)
          obtain ⟨y, hy⟩ := at_of_lt (xs := left) (k := p) (by rw [HLL.out]; exact hp)
          have hxm := List.mem_of_getElem? hx
          have hym := List.mem_of_getElem? hy
          obtain ⟨b1, o1, hb1, d0⟩ := (hRl.ext hwr').at_ hx
          obtain ⟨b2, o2, hb2, d1⟩ := (hRl.ext hwr').at_ hy
          injection hb1 with hb1
          injection hb1 with hb1 hb1'
          subst hb1
          subst hb1'
          injection hb2 with hb2
          injection hb2 with hb2 hb2'
          subst hb2
          subst hb2'
          rw [Nat.zero_add] at d0 d1
          have hnext : ∀ t : Bool, (t = true ↔ W left x ≤ W left y) → left[if t = true then j else p]? = some (pickV (W left) (left.take (j + 1))) := fun t ht => by
            rw [pickV_take hx]
            by_cases h0 : j = 0
            · have hp0 := hjp.out.1 h0
              subst h0
              subst hp0
              rw [hx] at hy
              injection hy with hy
              subst hy
              rw [ht.2 (by omega), if_pos rfl, if_pos (.inl (by show pickV _ [] < 0; rw [pickV_nil]; decide))]
              exact hx
            · have hp1 := hjp.out.2 (by omega)
              rw [hy] at hp1
              injection hp1 with hp1
              have hy0 := (HBD.out y hym).1
              rw [← hp1]
              cases t
              · rw [if_neg (by decide), if_neg (fun h => by
                  rcases h with h | h
                  · omega
                  · have := ht.2 h; cases this)]
                exact hy
              · rw [if_pos rfl, if_pos (.inr (ht.1 rfl))]
                exact hx
          have HN := hide hnext
          clear hnext hx hy
          by_cases ht : W left x ≤ W left y
          · have hN := hide (show left[j]? = some (pickV (W left) (left.take (j + 1))) by have h := HN.out true (by simp [ht]); rwa [if_pos rfl] at h)
            clear HN
            go_wp2
            refine wp_region_X (by kernel_rfl) (by kernel_rfl) ?_
            repeat' (refine wpX_stepQ (fun K hK => ?_)
                     go_simp
                     try (rw [if_neg (by intro h; simp [undef] at h)])
                     try split
                     all_goals
                       first
                       | (refine hK _ ?_
                          clear hK K)
                       | (apply Exists.intro
                          refine ⟨fun wq hwq => ?_, hK _ ?_⟩
                          · have hcq := hwq.cellS
                            go_simp
                            first
                            | exact ⟨Ext.refl _, rfl⟩
                            | exact ⟨Ext.refl _, HC.out x _ hxm (by repeat (first | exact Ext.refl _ | assumption | refine Ext.alloc ?_ _ | refine Ext.drew ?_ | refine Ext.trans ?_ (by assumption)))⟩
                            | exact ⟨Ext.refl _, HC.out y _ hym (by repeat (first | exact Ext.refl _ | assumption | refine Ext.alloc ?_ _ | refine Ext.drew ?_ | refine Ext.trans ?_ (by assumption)))⟩
                          clear hK K))
            refine wpX_nil (fun wz hwz => ?_)
            go_wp2
            exact ⟨⟨j + 1, j, by omega, hjt, by go_num, rfl, ⟨fun h => absurd h (by omega), fun _ => hN.out⟩, (by repeat (first | exact Ext.refl _ | assumption | refine Ext.alloc ?_ _ | refine Ext.drew ?_ | refine Ext.trans ?_ (by assumption)))⟩, by simp [intOf]; omega⟩
          · have hN := hide (show left[p]? = some (pickV (W left) (left.take (j + 1))) by have h := HN.out false (by simp; omega); rwa [if_neg (by decide)] at h)
            clear HN
            go_wp2
            refine wp_region_X (by kernel_rfl) (by kernel_rfl) ?_
            repeat' (refine wpX_stepQ (fun K hK => ?_)
                     go_simp
                     try (rw [if_neg (by intro h; simp [undef] at h)])
                     try split
                     all_goals
                       first
                       | (refine hK _ ?_
                          clear hK K)
                       | (apply Exists.intro
                          refine ⟨fun wq hwq => ?_, hK _ ?_⟩
                          · have hcq := hwq.cellS
                            go_simp
                            first
                            | exact ⟨Ext.refl _, rfl⟩
                            | exact ⟨Ext.refl _, HC.out x _ hxm (by repeat (first | exact Ext.refl _ | assumption | refine Ext.alloc ?_ _ | refine Ext.drew ?_ | refine Ext.trans ?_ (by assumption)))⟩
                            | exact ⟨Ext.refl _, HC.out y _ hym (by repeat (first | exact Ext.refl _ | assumption | refine Ext.alloc ?_ _ | refine Ext.drew ?_ | refine Ext.trans ?_ (by assumption)))⟩
                          clear hK K))
            refine wpX_nil (fun wz hwz => ?_)
            go_wp2
            exact ⟨⟨j + 1, p, by omega, hp, by go_num, rfl, ⟨fun h => absurd h (by omega), fun _ => hN.out⟩, (by repeat (first | exact Ext.refl _ | assumption | refine Ext.alloc ?_ _ | refine Ext.drew ?_ | refine Ext.trans ?_ (by assumption)))⟩, by simp [intOf]; omega⟩
        · have hjm : j = m := by omega
          have hpick := hjp.out.2 (by omega)
          rw [hjm, List.take_of_length_le (by rw [HLL.out]; omega)] at hpick
          have hpf := hfl.out p _ hpick
          have d0 := (hB.ext hwr').cell p hp
          rw [hpf] at d0
          have HPK := hide hpick
          have hlow := hw.size
          have hwz := hwr'.size
          have hone : ∀ t, t < m → (f t).oneCell' = true := fun t ht => by
            obtain ⟨x, hx⟩ := at_of_lt (xs := left) (k := t) (by rw [HLL.out]; exact ht)
            rw [hfl.out t x hx]; rfl
          have HONE := hide hone
          have hBw := hB.ext hwr'
          clear hpf hpick hone hB
          go_wp2_with (at_builtin; refine wpList_appF wb.heap.size _ rfl _ _ rfl _ (elimL n W k) _ rfl (hown.ext (by repeat (first | exact Ext.refl _ | assumption | refine Ext.alloc ?_ _ | refine Ext.drew ?_ | refine Ext.trans ?_ (by assumption)))) (by omega) rfl (by omega) ?_; intro v' w3 hown3 hg3 hf3)
          have hrow : ∀ b, u5.ownBlock = some b → wb.heap.size ≤ b := fun b hb => ownsRow_block hown b hb
          have hB3 := hBw.grown hg3 (fun b hb => by have := hrow b hb; omega)
          have hE3 : Ext w w3 := Ext.grown (hwr.trans hwr') hg3 (fun b hb => by have := hrow b hb; omega)
          have hz3 := hg3.size
          clear hBw hrow hg3 hf3 d0
          have HC2 := hide (del1 w3 g m n p f hB3 hp hmn HONE.out)
          clear hB3 HONE
          go_wp2_with fail
          refine HC2.out.mono ?_
          rintro e w4 ⟨rfl, hB4, hO4⟩
          have hz4 := hO4.size
          go_wp2
          refine ⟨⟨k + 1, fun t => if t < p then f t else f (t + 1), by omega, ?_, ?_, ?_, fun j x hx => ?_, Only.ext hE3 hO4 hgw, by omega⟩, (show m - 1 < m by omega)⟩
          · rw [show n - (k + 1) = m - 1 by omega]
          · have h := hown3.only hgl hO4
            show OwnI _ _ _ (elimL n W k ++ [pickV (W (leftL n (elimL n W k))) (leftL n (elimL n W k))])
            rw [← HLT.out]
            exact h
          · rw [show n - (k + 1) = m - 1 by omega]
            exact hB4
          · have hpk := HPK.out
            rw [HLT.out] at hpk
            have he : leftL n (elimL n W (k + 1)) = left.eraseIdx p := by
              show leftL n (elimL n W k ++ [pickV (W (leftL n (elimL n W k))) (leftL n (elimL n W k))]) = _
              rw [HLT.out]
              exact (leftL_erase hpk).symm
            rw [he, List.getElem?_eraseIdx] at hx
            show (if j < p then f j else f (j + 1)) = _
            by_cases e : j < p
            · rw [if_pos e] at hx ⊢
              exact hfl.out j x hx
            · rw [if_neg e] at hx ⊢
              exact hfl.out (j + 1) x hx
    · have hkn : k = n := by omega
      go_wp2
      go_ret
      refine ⟨_, rfl, ?_, hwr⟩
      have he : elimO n vs W = elimL n W k := by simp [elimO, h0, hkn]
      rw [he]
      exact hown.base hw.size

def keyS (sc : Nat → Int) (x : Int) : Int := sc x.toNat
/-- Candidates by their scores, the greatest first, equal ones in ascending order. -/
def srk (sc : Nat → Int) (n : Nat) : List Int := sortD (keyS sc) (iotaL n)
set_option maxRecDepth 100000 in
theorem iota_succ (n : Nat) : iotaL (n + 1) = iotaL n ++ [(n : Int)] := rowL_succ n _
set_option maxRecDepth 100000 in
theorem srk_succ (sc : Nat → Int) (n : Nat) : srk sc (n + 1) = insD (keyS sc) (srk sc n) n := by unfold srk; rw [iota_succ, sortD_snoc]
set_option maxRecDepth 100000 in
theorem srk_len (sc : Nat → Int) (n : Nat) : (srk sc n).length = n := by unfold srk; rw [sortD_len]; exact rowL_len _ _
set_option maxRecDepth 100000 in
theorem srk_mem {sc : Nat → Int} {n : Nat} {x : Int} (h : x ∈ srk sc n) : ∃ i : Nat, i < n ∧ x = i := by
  unfold srk at h
  rw [sortD_mem] at h
  obtain ⟨j, hj⟩ := List.mem_iff_getElem?.1 h
  obtain ⟨h1, rfl⟩ := rowL_val hj
  exact ⟨j, h1, rfl⟩

/-- All blocks below H are as they were. -/
structure Low (H : Nat) (w w' : World) : Prop where
  size : w.heap.size ≤ w'.heap.size
  block : ∀ k, k < H → k < w.heap.size → w'.heap[k]? = w.heap[k]?
set_option maxRecDepth 100000 in
theorem Low.refl (H : Nat) (w : World) : Low H w w := ⟨Nat.le_refl _, fun _ _ _ => rfl⟩
set_option maxRecDepth 100000 in
theorem Low.trans {H : Nat} {a b c : World} (h : Low H a b) (k : Low H b c) : Low H a c := ⟨Nat.le_trans h.size k.size, fun i hi hl => (k.block i hi (Nat.lt_of_lt_of_le hl h.size)).trans (h.block i hi hl)⟩
set_option maxRecDepth 100000 in
theorem Low.of_ext {H : Nat} {w w' : World} (h : Ext w w') : Low H w w' := ⟨h.size, fun k _ hl => Below.block h k hl⟩
set_option maxRecDepth 100000 in
theorem Low.keep {H : Nat} {w w' : World} (h : Low H w w') {p : Addr} {v : Value} (hp : p.block < H) (hc : w.cell? p = some v) : w'.cell? p = some v :=
  (World.cell?_of_block (w := w) (h.block p.block hp (World.block_lt_of_cell? w p hc))).trans hc

section
variable {P : Program} {ops : Array Oper} {md : Region.Mode} {H : Nat} {late : List Nat}

def QL (P : Program) (H : Nat) (W : World) (o : Oper) (a : Act) (v : Value) : Prop := ∀ w, Low H W w → qxUpon P w v ((execOp a.eval o).run P w)
def YL (P : Program) (ops : Array Oper) (H : Nat) (W : World) (o : Oper) (v : Value) (a : Act) : Prop :=
  (Region.wanted o (yielded ops a.tmps) = true ∧ QL P H W o a v) ∨ (Region.wanted o (yielded ops a.tmps) = false ∧ v = undef)
set_option maxRecDepth 100000 in
theorem YL.yx {W : World} {o : Oper} {v : Value} {a : Act} (h : YL P ops H W o v a) : YX P ops W o v a := h.imp (fun ⟨h1, h2⟩ => ⟨h1, fun w hw => h2 w (Low.of_ext hw)⟩) id
set_option maxRecDepth 100000 in
theorem YL.low {W W' : World} {o : Oper} {v : Value} {a : Act} (h : YL P ops H W o v a) (hW : Low H W W') : YL P ops H W' o v a :=
  h.imp (fun ⟨h1, h2⟩ => ⟨h1, fun w hw => h2 w (hW.trans hw)⟩) id
set_option maxRecDepth 100000 in
theorem YL.of_same {W : World} {o : Oper} {v : Value} {a a' : Act} (hy : YL P ops H W o v a) (he : execOp a'.eval o = execOp a.eval o)
    (hw : Region.wanted o (yielded ops a'.tmps) = Region.wanted o (yielded ops a.tmps)) : YL P ops H W o v a' := by
  unfold YL QL at *
  rw [he, hw]
  exact hy
def Y2 (P : Program) (ops : Array Oper) (H : Nat) (lt : Bool) (W : World) (o : Oper) (v : Value) (a : Act) : Prop := YX P ops W o v a ∧ (lt = true → YL P ops H W o v a)
set_option maxRecDepth 100000 in
theorem Y2.of_same {lt : Bool} {W : World} {o : Oper} {v : Value} {a a' : Act} (hy : Y2 P ops H lt W o v a) (he : execOp a'.eval o = execOp a.eval o)
    (hw : Region.wanted o (yielded ops a'.tmps) = Region.wanted o (yielded ops a.tmps)) : Y2 P ops H lt W o v a' := ⟨hy.1.of_same he hw, fun h => (hy.2 h).of_same he hw⟩
set_option maxRecDepth 100000 in
theorem Y2.ext {lt : Bool} {W W' : World} {o : Oper} {v : Value} {a : Act} (hy : Y2 P ops H lt W o v a) (hW : Ext W W') : Y2 P ops H lt W' o v a := ⟨hy.1.mono hW, fun h => (hy.2 h).low (Low.of_ext hW)⟩
set_option maxRecDepth 100000 in
theorem Y2.mono {lt : Bool} {W W' : World} {o : Oper} {v : Value} {a : Act} (hy : Y2 P ops H lt W o v a) (hW : Ext W W') : Y2 P ops H lt W' o v a := hy.ext hW

/-- Operation j stands before or behind every other one (plain moves and the late ones aside). -/
def cutLB (md : Region.Mode) (ops : Array Oper) (late : List Nat) (j : Nat) : Bool :=
  (List.range ops.size).all fun i => i == j || moveB ops i || late.contains i || if i < j then ancB md ops ops.size j i else ancB md ops ops.size i j
set_option maxRecDepth 100000 in
theorem cutL_no {listed : Array Bool} (hc : Closed md ops listed) {i j : Nat} (h : cutLB md ops late j = true) (hi : i ∈ Region.ready md ops listed) (hj : j ∈ Region.ready md ops listed) (hne : i ≠ j) : moveB ops i = true ∨ late.contains i = true := by
  have two : ∀ {i : Nat} {listed : Array Bool}, listed.getD i true = false → listed.getD i false = true → False := fun {i listed} h1 h2 => by
    rcases Nat.lt_or_ge i listed.size with h' | h'
    · simp [h'] at h1 h2; rw [h1] at h2; cases h2
    · simp [Array.getElem?_eq_none h'] at h2
  obtain ⟨hi0, oi, hoi, hia⟩ := mem_ready.1 hi
  obtain ⟨hj0, oj, hoj, hja⟩ := mem_ready.1 hj
  simp only [cutLB, List.all_eq_true, List.mem_range] at h
  have h1 := h i (Array.getElem?_eq_some_iff.1 hoi).1
  rw [Bool.or_eq_true, Bool.or_eq_true, Bool.or_eq_true] at h1
  rcases h1 with ((h1 | h1) | h1) | h1
  · exact absurd (by simpa using h1) hne
  · exact .inl h1
  · exact .inr h1
  split at h1
  · exact (two hi0 (anc_listed hc _ j oj hoj hja h1)).elim
  · exact (two hj0 (anc_listed hc _ i oi hoi hia h1)).elim

/-- Whatever order is picked from here on, from every world that grew out of W. -/
def wpAnyL (P : Program) (md : Region.Mode) (ops : Array Oper) (H : Nat) (late : List Nat) (Q : Act → World → Prop) : Nat → Array Bool → World → Act → Prop
  | 0, listed, W, a => Region.ready md ops listed = [] ∧ ∀ w, Ext W w → Q a w
  | fuel + 1, listed, W, a =>
    (Region.ready md ops listed = [] → ∀ w, Ext W w → Q a w) ∧
    ∀ i ∈ Region.ready md ops listed, ∀ w, Ext W w → wpOp P ops NoExit i (fun a' w' => (Ext w w' ∧ wpAnyL P md ops H late Q fuel (listed.setIfInBounds i true) w' a') ∨
      (lastB md ops i = true ∧ Region.ready md ops (listed.setIfInBounds i true) = [] ∧ Q a' w') ∨ (cutLB md ops late i = true ∧ Low H w w' ∧ wpAnyL P md ops H late Q fuel (listed.setIfInBounds i true) w' a')) a w

set_option maxRecDepth 100000 in
theorem wpAnyL.mono {Q : Act → World → Prop} : ∀ (fuel : Nat) (listed : Array Bool) {W W' : World} {a : Act}, wpAnyL P md ops H late Q fuel listed W a → Ext W W' → wpAnyL P md ops H late Q fuel listed W' a
  | 0, _, _, _, _, h, hW => ⟨h.1, fun w hw => h.2 w (hW.trans hw)⟩
  | _ + 1, _, _, _, _, h, hW => ⟨fun h0 w hw => h.1 h0 w (hW.trans hw), fun i hi w hw => h.2 i hi w (hW.trans hw)⟩

set_option maxRecDepth 100000 in
theorem wpAny_of_L {Q : Act → World → Prop} {Q' : Exit → Act → World → Prop} (hQ : ∀ a w, Q a w → Q' .normal a w) : ∀ (fuel : Nat) (listed : Array Bool) (W : World) (a : Act),
    wpAnyL P md ops H late Q fuel listed W a → wpAny P md ops Q' fuel listed a W
  | 0, _, W, _, h => ⟨h.1, hQ _ _ (h.2 W (Ext.refl _))⟩
  | fuel + 1, listed, W, a, h => ⟨fun h0 => hQ _ _ (h.1 h0 W (Ext.refl _)), fun i hi => by
      have h1 := h.2 i hi W (Ext.refl _)
      have fin : ∀ {a' : Act} {w w' : World}, ((Ext w w' ∧ wpAnyL P md ops H late Q fuel (listed.setIfInBounds i true) w' a') ∨ (lastB md ops i = true ∧ Region.ready md ops (listed.setIfInBounds i true) = [] ∧ Q a' w') ∨ (cutLB md ops late i = true ∧ Low H w w' ∧ wpAnyL P md ops H late Q fuel (listed.setIfInBounds i true) w' a')) →
          wpAny P md ops Q' fuel (listed.setIfInBounds i true) a' w' := fun hh => hh.elim (fun h2 => wpAny_of_L hQ fuel _ _ _ h2.2) (fun h2 => h2.elim (fun h2 => wpAny_end h2.2.1 (hQ _ _ h2.2.2)) (fun h2 => wpAny_of_L hQ fuel _ _ _ h2.2.2))
      unfold wpOp at *
      split
      · rename_i ho; simp only [ho] at h1; exact fin h1
      · rename_i o ho
        simp only [ho] at h1
        split
        · rename_i hw
          simp only [hw, if_true] at h1
          rcases h1 with h1 | ⟨_, h1⟩
          · refine .inl ?_
            unfold Oper.wp at *
            generalize (execOp a.eval o).run P W = r at *
            cases r with
            | ok n w' =>
              cases n <;> simp only [Oper.upon] at h1 ⊢
              case value u => exact fin h1
              case skip => exact fin h1
              case defer d => exact fin h1
              case enter f args =>
                refine Calls.mono h1 fun e w'' he => ?_
                cases e with
                | returned u => exact fin he
                | panicked c => exact he.elim
                | outgrown => exact (noLets he).elim
              case row row args => exact Rows.mono h1 fun u w'' he => fin he
            | halt x w' => cases x <;> simp only [Oper.upon] at h1 ⊢ <;> exact h1.elim
          · exact (noLets h1).elim
        · rename_i hw
          simp only [hw] at h1
          exact fin h1⟩

set_option maxRecDepth 100000 in
theorem wpOp_putY {j : Nat} {oi oj : Oper} {v : Value} (Y : Act → Prop) (hsame : ∀ a a' : Act, Y a → execOp a'.eval oi = execOp a.eval oi → Region.wanted oi (yielded ops a'.tmps) = Region.wanted oi (yielded ops a.tmps) → Y a') (hj : ops[j]? = some oj) (hap : oi.apart ops oj = true)
    (hsi : ∀ cs b, oi.op ≠ .select cs b) (hsj : ∀ cs b, oj.op ≠ .select cs b) {K : Act → World → Prop} {a : Act} {w : World}
    (hy : Y a) (h : wpOp P ops NoExit j K (a.put oi.dst v) w) :
    wpOp P ops NoExit j (fun a' w' => Y a' ∧ K (a'.put oi.dst v) w') a w := by
  obtain ⟨h1, h2, h3⟩ := Oper.apart_spec hap
  have keep : ∀ (a : Act), Y a → ∀ u, Y (a.put oj.dst u) := fun a hy u =>
    hsame _ _ hy (execOp_put oi hsi a oj.dst u h3) (wanted_put oi a oj.dst u h3)
  have keepD : ∀ d, Y { a with defers := d :: a.defers } := fun d => hsame _ _ hy rfl rfl
  unfold wpOp at *
  simp only [hj] at *
  rw [wanted_put oj a oi.dst v h1] at h
  split
  · rename_i hw
    simp only [hw, if_true] at h
    rcases h with h | ⟨_, hlets⟩
    case inr => exact (noLets hlets).elim
    refine .inl ?_
    unfold Oper.wp at *
    rw [execOp_put oj hsj a oi.dst v h1] at h
    generalize (execOp a.eval oj).run P w = r at *
    cases r with
    | ok n w' =>
      cases n <;> simp only [Oper.upon] at h ⊢
      case value u => exact ⟨keep a hy u, by rw [← Act.put_comm a v u h2]; exact h⟩
      case skip => exact ⟨keep a hy _, by rw [← Act.put_comm a v undef h2]; exact h⟩
      case defer d =>
        refine ⟨keep _ (keepD d) _, ?_⟩
        rw [← Act.put_comm _ v undef h2, ← Act.put_defers]
        exact h
      case enter f args =>
        refine Calls.mono h fun e w'' he => ?_
        cases e with
        | returned u => exact ⟨keep a hy u, by rw [← Act.put_comm a v u h2]; exact he⟩
        | panicked c => exact he
        | outgrown => exact he
      case row row args => exact Rows.mono h fun u w'' he => ⟨keep a hy u, by rw [← Act.put_comm a v u h2]; exact he⟩
    | halt x w' =>
      cases x <;> simp only [Oper.upon] at h ⊢ <;> exact h
  · rename_i hw
    simp only [hw] at h
    exact ⟨keep a hy _, by rw [← Act.put_comm a v undef h2]; exact h⟩

set_option maxRecDepth 100000 in
theorem wpAnyL_first {Q : Act → World → Prop} {i : Nat} {oi : Oper} {v : Value} (hi : ops[i]? = some oi) (hsel : ∀ (j : Nat) (o : Oper) cs b, ops[j]? = some o → o.op ≠ .select cs b) :
    ∀ (fuel : Nat) (listed : Array Bool) (W : World) (a : Act),
      (∀ j oj, ops[j]? = some oj → j ≠ i → listed.getD j true = false → (∀ e ∈ oj.after, Region.binds md e = true → e.on ≠ i) → oi.apart ops oj = true) →
      Closed md ops listed → i ∈ Region.ready md ops listed → Y2 P ops H (late.contains i) W oi v a →
      wpAnyL P md ops H late Q fuel (listed.setIfInBounds i true) W (a.put oi.dst v) → wpAnyL P md ops H late Q (fuel + 1) listed W a := by
  intro fuel
  induction fuel with
  | zero =>
    intro listed W a _ _ hr hy HH
    refine ⟨fun h => (by rw [h] at hr; cases hr), fun j hj w hw => ?_⟩
    by_cases hji : j = i
    · subst hji; exact hy.1.wpOp hi hw fun w' hw' => .inl ⟨hw', HH.mono _ _ (hw.trans hw')⟩
    · have := ready_mono hj hji
      rw [HH.1] at this
      cases this
  | succ fuel ih =>
    intro listed W a hfree hcl hr hy HH
    refine ⟨fun h => (by rw [h] at hr; cases hr), fun j hj w hw => ?_⟩
    by_cases hji : j = i
    · subst hji; exact hy.1.wpOp hi hw fun w' hw' => .inl ⟨hw', HH.mono _ _ (hw.trans hw')⟩
    · have h1 := HH.2 j (ready_mono hj hji) w hw
      obtain ⟨hjun, oj, hoj, hall⟩ := mem_ready.1 hj
      have hnot : ∀ e ∈ oj.after, Region.binds md e = true → e.on ≠ i := fun e he hb heq => by
        have h1 := hall e he hb
        have h0 := (mem_ready.1 hr).1
        rw [heq] at h1
        rcases Nat.lt_or_ge i listed.size with h' | h'
        · simp [h'] at h0 h1; rw [h0] at h1; cases h1
        · simp [Array.getElem?_eq_none h'] at h1
      have h2 := wpOp_putY (Y2 P ops H (late.contains i) W oi v) (fun _ _ hy he hw => hy.of_same he hw) hoj (hfree j oj hoj hji hjun hnot) (fun cs b => hsel i oi cs b hi) (fun cs b => hsel j oj cs b hoj) hy h1
      have hfree' : ∀ k ok, ops[k]? = some ok → k ≠ i → (listed.setIfInBounds j true).getD k true = false →
          (∀ e ∈ ok.after, Region.binds md e = true → e.on ≠ i) → oi.apart ops ok = true := fun k ok hk hki hun hno => by
        refine hfree k ok hk hki ?_ hno
        by_cases hjk : j = k
        · subst hjk; exact hjun
        · rw [getD_set_ne true hjk] at hun; exact hun
      refine wpOp_mono (fun a' w' h3 => ?_) h2
      rcases h3 with ⟨h3, h4 | h4 | h4⟩
      · refine .inl ⟨h4.1, ih (listed.setIfInBounds j true) w' a' hfree' (hcl.set hj) (ready_mono hr (Ne.symm hji)) (h3.mono (hw.trans h4.1)) ?_⟩
        rw [Array.setIfInBounds_comm _ _ hji]
        exact h4.2
      · obtain ⟨e, he, hb, heq⟩ := lastB_spec h4.1 hoj (Array.getElem?_eq_some_iff.1 hi).1 (Ne.symm hji)
        exact absurd heq (hnot e he hb)
      · have hy3 : Y2 P ops H (late.contains i) w' oi v a' := by
          rcases cutL_no hcl h4.1 hr hj (Ne.symm hji) with hm | hl
          · obtain ⟨x, hx⟩ := moveB_spec hm hi
            exact ⟨h3.1.move hx, fun hl => (h3.2 hl).low ((Low.of_ext hw).trans h4.2.1)⟩
          · have h5 := (h3.2 hl).low ((Low.of_ext hw).trans h4.2.1)
            exact ⟨h5.yx, fun _ => h5⟩
        refine .inr (.inr ⟨h4.1, h4.2.1, ih (listed.setIfInBounds j true) w' a' hfree' (hcl.set hj) (ready_mono hr (Ne.symm hji)) hy3 ?_⟩)
        rw [Array.setIfInBounds_comm _ _ hji]
        exact h4.2.2

/-- THE WALK IN THE ORDER OF THE TEXT. -/
def wpL (P : Program) (ops : Array Oper) (H : Nat) (late : List Nat) (Q : Act → World → Prop) : List Oper → Nat → World → Act → Prop
  | [], _, W, a => ∀ w, Ext W w → Q a w
  | o :: rest, k, W, a =>
    (∃ v, Y2 P ops H (late.contains k) W o v a ∧ wpL P ops H late Q rest (k + 1) W (a.put o.dst v)) ∨
    (soleB ops k = true ∧ ∀ w, Ext W w → wpOp P ops NoExit k (fun a' w' => Ext w w' ∧ wpL P ops H late Q rest (k + 1) w' a') a w) ∨
    (soleB ops k = true ∧ lastB .any ops k = true ∧ Region.ready .any ops (listedTo ops (k + 1)) = [] ∧ ∀ w, Ext W w → wpOp P ops NoExit k (fun a' w' => Q a' w') a w) ∨
    (soleB ops k = true ∧ cutLB .any ops late k = true ∧ ∀ w, Ext W w → wpOp P ops NoExit k (fun a' w' => Low H w w' ∧ wpL P ops H late Q rest (k + 1) w' a') a w)

set_option maxRecDepth 100000 in
theorem wpL_lex {Q : Act → World → Prop} (hs : Region.noSelect ops = true) : ∀ (l : List Oper) (k : Nat) (W : World) (a : Act), (∀ j, l[j]? = ops[k + j]?) → Closed .any ops (listedTo ops k) →
    Region.lexFrom .any ops l.length k (listedTo ops k) = true → wpL P ops H late Q l k W a → wpAnyL P .any ops H late Q l.length (listedTo ops k) W a
  | [], _, _, _, _, _, hB, h => ⟨by simpa [Region.lexFrom] using hB, h⟩
  | o :: l, k, W, a, hl, hcl, hB, h => by
    have h0 : ops[k]? = some o := by simpa using (hl 0).symm
    simp only [List.length_cons, Region.lexFrom, Bool.and_eq_true] at hB
    obtain ⟨⟨hr, hf⟩, hB'⟩ := hB
    have hcl' : Closed .any ops (listedTo ops (k + 1)) := hcl.set (by simpa using hr)
    have hl' : ∀ j, l[j]? = ops[k + 1 + j]? := fun j => by have := hl (j + 1); simpa [Nat.add_assoc, Nat.add_comm 1 j] using this
    have sole : soleB ops k = true → Region.ready .any ops (listedTo ops k) = [k] := fun hsole => by simpa [soleB] using hsole
    rcases h with ⟨v, hy, hK⟩ | ⟨hsole, hK⟩ | ⟨hsole, hlast, hend, hK⟩ | ⟨hsole, hcut, hK⟩
    · exact wpAnyL_first h0 (Region.noSelect_spec hs) l.length _ W a (Region.free_spec h0 hf) hcl (by simpa using hr) hy (wpL_lex hs l (k + 1) W _ hl' hcl' hB' hK)
    · have hsole' := sole hsole
      refine ⟨fun h => (by rw [h] at hsole'; cases hsole'), fun i hi w hw => ?_⟩
      have hik : i = k := by rw [hsole'] at hi; simpa using hi
      subst hik
      exact wpOp_mono (fun a' w' h3 => .inl ⟨h3.1, wpL_lex hs l (i + 1) w' a' hl' hcl' hB' h3.2⟩) (hK w hw)
    · have hsole' := sole hsole
      refine ⟨fun h => (by rw [h] at hsole'; cases hsole'), fun i hi w hw => ?_⟩
      have hik : i = k := by rw [hsole'] at hi; simpa using hi
      subst hik
      exact wpOp_mono (fun a' w' h3 => .inr (.inl ⟨hlast, hend, h3⟩)) (hK w hw)
    · have hsole' := sole hsole
      refine ⟨fun h => (by rw [h] at hsole'; cases hsole'), fun i hi w hw => ?_⟩
      have hik : i = k := by rw [hsole'] at hi; simpa using hi
      subst hik
      exact wpOp_mono (fun a' w' h3 => .inr (.inr ⟨hcut, h3.1, wpL_lex hs l (i + 1) w' a' hl' hcl' hB' h3.2⟩)) (hK w hw)

set_option maxRecDepth 100000 in
theorem wp_region_L {id : Nat} {Q : Exit → Act → World → Prop} {a : Act} {w : World} {l : List Oper} (hm : P.follows .mixedOrders = true) (hB : Region.lexB .any l.toArray = true)
    (h : wpL P l.toArray H late (fun a' w' => Q .normal a' w') l 0 w a) : (Code.region id l.toArray true).wp P Q a w := by
  simp only [Region.lexB, Bool.and_eq_true] at hB
  have h0 : wpL P l.toArray H late (fun a' w' => Q .normal a' w') l 0 w.drew a := by
    have key : ∀ (l' : List Oper) (k : Nat) (a : Act), wpL P l.toArray H late (fun a' w' => Q .normal a' w') l' k w a → wpL P l.toArray H late (fun a' w' => Q .normal a' w') l' k w.drew a := by
      intro l'
      induction l' with
      | nil => intro k a h w' hw'; exact h w' (((Ext.refl w).drew).trans hw')
      | cons o l' ih =>
        intro k a h
        rcases h with ⟨v, hy, hK⟩ | ⟨hs, hK⟩ | ⟨hs, h1, h2, hK⟩ | ⟨hs, h1, hK⟩
        · exact .inl ⟨v, hy.ext ((Ext.refl w).drew), ih _ _ hK⟩
        · exact .inr (.inl ⟨hs, fun w' hw' => hK w' (((Ext.refl w).drew).trans hw')⟩)
        · exact .inr (.inr (.inl ⟨hs, h1, h2, fun w' hw' => hK w' (((Ext.refl w).drew).trans hw')⟩))
        · exact .inr (.inr (.inr ⟨hs, h1, fun w' hw' => hK w' (((Ext.refl w).drew).trans hw')⟩))
    exact key l 0 a h
  have h1 := wpL_lex (P := P) (Q := fun a' w' => Q .normal a' w') hB.1 l 0 w.drew a (by simp) (Closed.start _ _ _) (by simpa [listedTo] using hB.2) h0
  exact wp_region_any hm (wpAny_of_L (fun _ _ h => h) _ _ _ _ (by simpa [listedTo] using h1))

set_option maxRecDepth 100000 in
/-- One operation at a time: a quiet one (or one whose guard says no). -/
theorem wpL_stepQ {Q : Act → World → Prop} {o : Oper} {rest : List Oper} {k : Nat} {W : World} {a : Act} (hl : late.contains k = false)
    (h : ∀ K : Act → Prop, (∀ a, wpL P ops H late Q rest (k + 1) W a → K a) → if Region.wanted o (yielded ops a.tmps) then ∃ v, QX P W o a v ∧ K (a.put o.dst v) else K (a.put o.dst undef)) : wpL P ops H late Q (o :: rest) k W a := by
  have h1 := h _ (fun _ h => h)
  by_cases hw : Region.wanted o (yielded ops a.tmps) = true
  · simp only [hw, if_true] at h1
    obtain ⟨v, hq, hK⟩ := h1
    exact .inl ⟨v, ⟨.inl ⟨hw, hq⟩, fun h => by rw [hl] at h; cases h⟩, hK⟩
  · simp only [hw] at h1
    have hw' : Region.wanted o (yielded ops a.tmps) = false := by simpa using hw
    exact .inl ⟨undef, ⟨.inr ⟨hw', rfl⟩, fun h => by rw [hl] at h; cases h⟩, h1⟩

set_option maxRecDepth 100000 in
/-- .. a quiet one that may come late: it reads below H alone. -/
theorem wpL_stepQL {Q : Act → World → Prop} {o : Oper} {rest : List Oper} {k : Nat} {W : World} {a : Act} (v : Value) (hg : o.guard = none) (hq : QL P H W o a v)
    (h : ∀ K : Act → Prop, (∀ a, wpL P ops H late Q rest (k + 1) W a → K a) → K (a.put o.dst v)) : wpL P ops H late Q (o :: rest) k W a := by
  have hw : Region.wanted o (yielded ops a.tmps) = true := by simp [Region.wanted, hg]
  have hy : YL P ops H W o v a := .inl ⟨hw, hq⟩
  exact .inl ⟨v, ⟨hy.yx, fun _ => hy⟩, h _ (fun _ h => h)⟩

set_option maxRecDepth 100000 in
/-- .. one that alone is ready. -/
theorem wpL_stepS {Q : Act → World → Prop} {o : Oper} {rest : List Oper} {k : Nat} {W : World} {a : Act} (ho : ops[k]? = some o) (hs : soleB ops k = true)
    (h : ∀ K : World → Act → Prop, (∀ W a, wpL P ops H late Q rest (k + 1) W a → K W a) → ∀ w, Ext W w →
      if Region.wanted o (yielded ops a.tmps) then o.wp P a w (fun a' w' => Ext w w' ∧ K w' a') NoExit else K w (a.put o.dst undef)) : wpL P ops H late Q (o :: rest) k W a := by
  refine .inr (.inl ⟨hs, fun w hw' => ?_⟩)
  have h1 := h _ (fun _ _ h => h) w hw'
  unfold wpOp
  simp only [ho]
  by_cases hw : Region.wanted o (yielded ops a.tmps) = true
  · simp only [hw, if_true] at h1 ⊢
    exact .inl h1
  · simp only [hw] at h1 ⊢
    exact ⟨Ext.refl _, h1⟩

set_option maxRecDepth 100000 in
/-- .. the last one, which may do anything. -/
theorem wpL_stepL {Q : Act → World → Prop} {o : Oper} {rest : List Oper} {k : Nat} {W : World} {a : Act} (ho : ops[k]? = some o) (hs : soleB ops k = true) (hl : lastB .any ops k = true)
    (he : (Region.ready .any ops (listedTo ops (k + 1))).isEmpty = true)
    (h : ∀ K : Act → World → Prop, (∀ a w, Q a w → K a w) → ∀ w, Ext W w → if Region.wanted o (yielded ops a.tmps) then o.wp P a w K NoExit else K (a.put o.dst undef) w) : wpL P ops H late Q (o :: rest) k W a := by
  refine .inr (.inr (.inl ⟨hs, hl, List.isEmpty_iff.1 he, fun w hw' => ?_⟩))
  have h1 := h _ (fun _ _ h => h) w hw'
  unfold wpOp
  simp only [ho]
  by_cases hw : Region.wanted o (yielded ops a.tmps) = true
  · simp only [hw, if_true] at h1 ⊢
    exact .inl h1
  · simp only [hw] at h1 ⊢
    exact h1

set_option maxRecDepth 100000 in
/-- .. one that stands before or behind every other one, and may do anything. -/
theorem wpL_stepC {Q : Act → World → Prop} {o : Oper} {rest : List Oper} {k : Nat} {W : World} {a : Act} (ho : ops[k]? = some o) (hs : (soleB ops k && cutLB .any ops late k) = true)
    (h : ∀ K : World → Act → Prop, (∀ W a, wpL P ops H late Q rest (k + 1) W a → K W a) → ∀ w, Ext W w →
      if Region.wanted o (yielded ops a.tmps) then o.wp P a w (fun a' w' => Low H w w' ∧ K w' a') NoExit else K w (a.put o.dst undef)) : wpL P ops H late Q (o :: rest) k W a := by
  rw [Bool.and_eq_true] at hs
  refine .inr (.inr (.inr ⟨hs.1, hs.2, fun w hw' => ?_⟩))
  have h1 := h _ (fun _ _ h => h) w hw'
  unfold wpOp
  simp only [ho]
  by_cases hw : Region.wanted o (yielded ops a.tmps) = true
  · simp only [hw, if_true] at h1 ⊢
    exact .inl h1
  · simp only [hw] at h1 ⊢
    exact ⟨Low.refl _ _, h1⟩

set_option maxRecDepth 100000 in
theorem wpL_nil {Q : Act → World → Prop} {k : Nat} {W : World} {a : Act} (h : ∀ w, Ext W w → Q a w) : wpL P ops H late Q [] k W a := h
end

end Go.Proofs.YtilcdnkkabmbfaaGreat
