/- Eliminations of the program: by a worth, any worth. -/
import Derived.Test.YtacmabdeocmheaaElimP
import Derived.Test.YtacmabdeocmheaaDel
import Derived.Test.YtacmabdeocmheaaSums
namespace Go.Proofs.Ytacmabdeocmheaa
open Go.RowKit

def iotaL (n : Nat) : List Int := rowL n (fun j => (j : Int))
set_option maxRecDepth 100000 in
theorem iotaL_up (n : Nat) : iotaL n = upL n (fun _ => true) := by
  unfold iotaL rowL upL
  rw [List.filter_eq_self.2 (fun _ _ => rfl)]
set_option maxRecDepth 100000 in
set_option maxHeartbeats 1000000 in
theorem indices_impl (w : World) (n : Nat) (n2 : n ≤ 5) :
    Calls Try.prog 146 #[.int .i64 n] w fun e w' => e = .returned (.slice (some ⟨w.heap.size, 0, none⟩) n n) ∧ BlkF w' w.heap.size n (fun o => .int .i64 (o : Int)) ∧ Ext w w' := by
  obtain ⟨i0, hi, hz0, hz1, hz2⟩ := info_parts info_int
  have hmk := fun W => run_make_rowN (P := Try.prog) 50 3 i0 _ Try.underlying50 hi hz0 .i64 .i64 n n (Nat.le_refl _) (by rw [hz2]; omega) (by omega) W
  rw [hz1, Nat.mul_one] at hmk
  go_enter Try.func146, Try.ntmps146
  go_wp2_with fail
  clear hmk
  have hB := BlkF.new w (madeCells #[.int .i64 0] n) 3
  rw [size_madeCells] at hB
  have hE := Ext.new w (.cells (madeCells #[.int .i64 0] n) 3)
  have hB := hB.congr (f' := fun o => .int .i64 (if o < 0 then (o : Int) else 0)) (fun o ho => by rw [if_neg (by omega)]; exact made_int n o ho)
  generalize w.alloc (.cells (madeCells #[.int .i64 0] n) 3) = W1 at hB hE ⊢
  go_loopw [4, 9] (fun _ i wr => ∃ j : Nat, j ≤ n ∧ i = .int .i64 j ∧ BlkF wr w.heap.size n (fun o => .int .i64 (if o < j then (o : Int) else 0)) ∧ Ext w wr) (fun _ i _ => n - (intOf i).toNat)
  case atStart => exact ⟨0, Nat.zero_le _, rfl, hB, hE⟩
  case round =>
    clear hB hE
    obtain ⟨i, hi, rfl, hB, hwr⟩ := hrel
    by_cases hlt : i < n
    · have d0 := hB.cell i hlt
      rw [if_neg (by omega)] at d0
      have z0 := hB.fr i
      have HB := hide hB
      clear hB
      go_wp2
      refine ⟨⟨i + 1, by omega, by go_num, (HB.out.set i hlt _).congr (fun o ho => ?_), Ext.setCell hwr (Nat.le_refl _) _⟩, by simp [intOf]; omega⟩
      by_cases e : o = i
      · subst e; rw [if_pos rfl, if_pos (by omega)]
      · rw [if_neg e]
        by_cases e2 : o < i
        · rw [if_pos e2, if_pos (by omega)]
        · rw [if_neg e2, if_neg (by omega)]
    · have hin : i = n := by omega
      go_wp2
      go_ret
      exact ⟨rfl, hB.congr (fun o ho => by rw [if_pos (by omega)]), hwr⟩

set_option maxRecDepth 100000 in
/-- v reads as the list, in a block that may be written. -/
theorem BlkF.rdL {w : World} {g n : Nat} {f : Nat → Value} {xs : List Int} (h : BlkF w g n f) (hn : xs.length ≤ n) (hf : ∀ (j : Nat) (x : Int), xs[j]? = some x → f j = .int .i64 x) : RdI w (some ⟨g, 0, none⟩) xs := fun _ => ⟨g, 0, rfl, fun j x hx => by rw [Nat.zero_add, h.cell j (by have := lt_of_at hx; omega), hf j x hx]⟩

set_option maxRecDepth 100000 in
theorem BlkF.grown {w w' : World} {g n : Nat} {f : Nat → Value} {row : Option Nat} (h : BlkF w g n f) (hg : w.grownBy w' row) (hr : ∀ k, row = some k → k ≠ g) : BlkF w' g n f := by
  have hgr : w'.heap[g]? = w.heap[g]? := hg.block g h.lt (fun e => hr g e.symm rfl)
  exact ⟨Nat.lt_of_lt_of_le h.lt hg.size, fun o => (World.frozen?_of_block (w := w) hgr).trans (h.fr o), fun o ho => (World.cell?_of_block (w := w) hgr).trans (h.cell o ho)⟩

def elimO (sz : Int) (vs : List Vt) (W : List Int → Int → Int) : List Int := if profOk sz vs then elimL sz.toNat W sz.toNat else []
set_option maxRecDepth 100000 in
theorem elimO_len (sz : Int) (vs : List Vt) (W : List Int → Int → Int) : (elimO sz vs W).length ≤ 5 := by
  unfold elimO
  cases h0 : profOk sz vs
  · simp
  · obtain ⟨n, rfl, n1, n2⟩ := prof_nat h0
    simp [elimL_len]; omega
set_option maxRecDepth 100000 in
theorem pickV_take {f : Int → Int} {xs : List Int} {k : Nat} {x : Int} (h : xs[k]? = some x) : pickV f (xs.take (k + 1)) = if pickV f (xs.take k) < 0 ∨ f x ≤ f (pickV f (xs.take k)) then x else pickV f (xs.take k) := by
  rw [take_at h, pickV_snoc]

set_option maxRecDepth 100000 in
set_option maxHeartbeats 8000000 in
theorem elim_impl (K : Nat) (cap : Array Value) (W : List Int → Int → Int) (w : World) (sz : Int) (a : Option Addr) (c : Nat) (vs : List Vt) (hR : RdV w a vs) (hK : Enters Try.prog K)
    (hf : ∀ (n : Nat) (left : List Int) (x : Int) (al : Option Addr) (cl : Nat) (w' : World), sz = n → n ≤ 5 → SmallV n vs → (∀ y ∈ left, 0 ≤ y ∧ y < n) → left.length ≤ n → x ∈ left → Ext w w' → RdI w' al left →
      Calls Try.prog K (#[.slice al left.length cl, .int .i64 x] ++ cap) w' fun e w'' => e = .returned (.int .i64 (W left x)) ∧ Ext w' w'') :
    Calls Try.prog 212 #[.agg #[.int .i64 sz, .slice a vs.length c], .func (.func K) #[] cap] w fun e w' => ∃ v, e = .returned v ∧ OwnI w' w.heap.size v (elimO sz vs W) ∧ Ext w w' := by
  unfold Enters at hK
  have q0 := new0 w (.int .i64 sz) [.slice a vs.length c] 43
  have q1 := new1 w (.int .i64 sz) (.slice a vs.length c) [] 43
  have HF := hide hf
  clear hf
  cases h0 : profOk sz vs
  · go_enter Try.func212, Try.ntmps212
    go_wp2_with (go_at_call 63; refine (prof_impl _ _ _ _ _ (hR.ext (by repeat (first | exact Ext.refl _ | assumption | refine Ext.alloc ?_ _ | refine Ext.drew ?_ | refine Ext.trans ?_ (by assumption))))).mono ?_; rintro e w1 ⟨rfl, hw1⟩; have q0 := Ext.keep (w' := w1) (by repeat (first | exact Ext.refl _ | assumption | refine Ext.alloc ?_ _ | refine Ext.drew ?_ | refine Ext.trans ?_ (by assumption))) q0; have q1 := Ext.keep (w' := w1) (by repeat (first | exact Ext.refl _ | assumption | refine Ext.alloc ?_ _ | refine Ext.drew ?_ | refine Ext.trans ?_ (by assumption))) q1)
    go_ret
    exact ⟨_, rfl, by simp [elimO, h0]; exact OwnI.nil _ _, (by repeat (first | exact Ext.refl _ | assumption | refine Ext.alloc ?_ _ | refine Ext.drew ?_ | refine Ext.trans ?_ (by assumption)))⟩
  obtain ⟨n, rfl, n1, n2⟩ := prof_nat h0
  have HS := hide (prof_small h0)
  go_enter Try.func212, Try.ntmps212
  go_wp2_with (go_at_call 63; refine (prof_impl _ _ _ _ _ (hR.ext (by repeat (first | exact Ext.refl _ | assumption | refine Ext.alloc ?_ _ | refine Ext.drew ?_ | refine Ext.trans ?_ (by assumption))))).mono ?_; rintro e w1 ⟨rfl, hw1⟩; have q0 := Ext.keep (w' := w1) (by repeat (first | exact Ext.refl _ | assumption | refine Ext.alloc ?_ _ | refine Ext.drew ?_ | refine Ext.trans ?_ (by assumption))) q0; have q1 := Ext.keep (w' := w1) (by repeat (first | exact Ext.refl _ | assumption | refine Ext.alloc ?_ _ | refine Ext.drew ?_ | refine Ext.trans ?_ (by assumption))) q1)
  refine (indices_impl _ n n2).mono ?_
  rintro e w2 ⟨rfl, hB, hw2⟩
  have hw : Ext w w2 := (by repeat (first | exact Ext.refl _ | assumption | refine Ext.alloc ?_ _ | refine Ext.drew ?_ | refine Ext.trans ?_ (by assumption)))
  obtain ⟨g, hg⟩ : ∃ g : Nat, g = w1.heap.size := ⟨_, rfl⟩
  have hgw : w.heap.size ≤ g := by rw [hg]; exact Ext.size (by repeat (first | exact Ext.refl _ | assumption | refine Ext.alloc ?_ _ | refine Ext.drew ?_ | refine Ext.trans ?_ (by assumption)))
  rw [← hg] at hB ⊢
  clear hg
  have hgl := hB.lt
  obtain ⟨wb, hwb⟩ : ∃ wb : World, wb = w2 := ⟨_, rfl⟩
  subst hwb
  go_wp2_with fail
  go_loopw [5, 6, 7, 8, 9, 19, 20, 21] (fun v l _ _ _ _ _ _ wr => ∃ (k : Nat) (f : Nat → Value), k ≤ n ∧ l = .slice (some ⟨g, 0, none⟩) (n - k) n ∧ OwnI wr wb.heap.size v (elimL n W k) ∧ BlkF wr g (n - k) f ∧ Hid (∀ (j : Nat) (x : Int), (leftL n (elimL n W k))[j]? = some x → f j = .int .i64 x) ∧ Ext w wr ∧ wb.heap.size ≤ wr.heap.size) (fun _ l _ _ _ _ _ _ _ => match l with | .slice _ m _ => m | _ => 0)
  case atStart =>
    refine ⟨0, _, Nat.zero_le _, rfl, OwnI.nil _ _, hB, fun j x hx => ?_, hw, Nat.le_refl _⟩
    rw [elimL, leftL_nil, ← iotaL_up] at hx
    obtain ⟨_, rfl⟩ := rowL_val hx
    rfl
  case round =>
    clear hB
    obtain ⟨k, f, hk, rfl, hown, hB, hfl, hwr, hsz⟩ := hrel
    have hll := leftL_elim (n := n) W k hk
    have hel := elimL_len n W k
    by_cases hlt : k < n
    · obtain ⟨left, hleft⟩ : ∃ left, left = leftL n (elimL n W k) := ⟨_, rfl⟩
      rw [← hleft] at hll hfl
      have hbds : ∀ y ∈ left, 0 ≤ y ∧ y < (n : Int) := fun y hy => by
        rw [hleft] at hy
        obtain ⟨i, hi, _, rfl⟩ := leftL_mem.1 hy
        omega
      have HLT := hide hleft
      obtain ⟨m, hm⟩ : ∃ m : Nat, m = n - k := ⟨_, rfl⟩
      rw [← hm] at hll hB ⊢
      have hm1 : 1 ≤ m := by omega
      have hm0 : decide (0 < m) = true := by simp; omega
      have hmn : m ≤ n := by omega
      have hmk : m + k ≤ n := by omega
      have hmk2 : n ≤ m + k := by omega
      have HLL := hide hll
      have HBD := hide hbds
      have hRl := hB.rdL (xs := left) (by omega) hfl.out
      have HC : Hid (∀ (x : Int) (w' : World), x ∈ left → Ext wr w' → Calls Try.prog K (#[.slice (some ⟨g, 0, none⟩) m n, .int .i64 x] ++ cap) w' fun e w'' => e = .returned (.int .i64 (W left x)) ∧ Ext w' w'') := fun x w' hx hw' => by
        have h := HF.out n left x (some ⟨g, 0, none⟩) n w' rfl n2 HS.out hbds (by omega) hx (hwr.trans hw') (hRl.ext hw')
        rw [hll] at h
        exact h
      clear hleft hm hll hbds
      go_wp2_with fail
      obtain ⟨wo, hwo⟩ : ∃ wo : World, wo = wr := ⟨_, rfl⟩
      subst hwo
      go_loopw [7, 8, 9, 21] (fun at_ _ _ i wr => ∃ (j p : Nat), j ≤ m ∧ p < m ∧ i = .int .i64 j ∧ at_ = .int .i64 p ∧ Hid ((j = 0 → p = 0) ∧ (1 ≤ j → left[p]? = some (pickV (W left) (left.take j)))) ∧ Ext wo wr) (fun _ _ _ i _ => m - (intOf i).toNat)
      case atStart => exact ⟨0, 0, Nat.zero_le _, hm1, rfl, rfl, ⟨fun _ => rfl, fun h => absurd h (by omega)⟩, Ext.refl _⟩
      case round =>
        obtain ⟨j, p, hj, hp, rfl, rfl, hjp, hwr'⟩ := hrel
        by_cases hjt : j < m
        · obtain ⟨x, hx⟩ := at_of_lt (xs := left) (k := j) (by rw [HLL.out]; exact hjt)
          obtain ⟨y, hy⟩ := at_of_lt (xs := left) (k := p) (by rw [HLL.out]; exact hp)
          have hxm := List.mem_of_getElem? hx
          have hym := List.mem_of_getElem? hy
          obtain ⟨b1, o1, hb1, d0⟩ := (hRl.ext hwr').at_ hx
          obtain ⟨b2, o2, hb2, d1⟩ := (hRl.ext hwr').at_ hy
          injection hb1 with hb1
          injection hb1 with hb1 hb1'
          subst hb1
          subst hb1'
          injection hb2 with hb2
          injection hb2 with hb2 hb2'
          subst hb2
          subst hb2'
          rw [Nat.zero_add] at d0 d1
          have hnext : ∀ t : Bool, (t = true ↔ W left x ≤ W left y) → left[if t = true then j else p]? = some (pickV (W left) (left.take (j + 1))) := fun t ht => by
            rw [pickV_take hx]
            by_cases h0 : j = 0
            · have hp0 := hjp.out.1 h0
              subst h0
              subst hp0
              rw [hx] at hy
              injection hy with hy
              subst hy
              rw [ht.2 (by omega), if_pos rfl, if_pos (.inl (by show pickV _ [] < 0; rw [pickV_nil]; decide))]
              exact hx
            · have hp1 := hjp.out.2 (by omega)
              rw [hy] at hp1
              injection hp1 with hp1
              have hy0 := (HBD.out y hym).1
              rw [← hp1]
              cases t
              · rw [if_neg (by decide), if_neg (fun h => by
                  rcases h with h | h
                  · omega
                  · have := ht.2 h; cases this)]
                exact hy
              · rw [if_pos rfl, if_pos (.inr (ht.1 rfl))]
                exact hx
          have HN := hide hnext
          clear hnext hx hy
          by_cases ht : W left x ≤ W left y
          · have hN := hide (show left[j]? = some (pickV (W left) (left.take (j + 1))) by have h := HN.out true (by simp [ht]); rwa [if_pos rfl] at h)
            clear HN
            go_wp2
            refine wp_region_X (by kernel_rfl) (by kernel_rfl) ?_
            repeat' (refine wpX_stepQ (fun K hK => ?_)
                     go_simp
                     try (rw [if_neg (by intro h; simp [undef] at h)])
                     try split
                     all_goals
                       first
                       | (refine hK _ ?_
                          clear hK K)
                       | (apply Exists.intro
                          refine ⟨fun wq hwq => ?_, hK _ ?_⟩
                          · have hcq := hwq.cellS
                            go_simp
                            first
                            | exact ⟨Ext.refl _, rfl⟩
                            | exact ⟨Ext.refl _, HC.out x _ hxm (by repeat (first | exact Ext.refl _ | assumption | refine Ext.alloc ?_ _ | refine Ext.drew ?_ | refine Ext.trans ?_ (by assumption)))⟩
                            | exact ⟨Ext.refl _, HC.out y _ hym (by repeat (first | exact Ext.refl _ | assumption | refine Ext.alloc ?_ _ | refine Ext.drew ?_ | refine Ext.trans ?_ (by assumption)))⟩
                          clear hK K))
            refine wpX_nil (fun wz hwz => ?_)
            go_wp2
            exact ⟨⟨j + 1, j, by omega, hjt, by go_num, rfl, ⟨fun h => absurd h (by omega), fun _ => hN.out⟩, (by repeat (first | exact Ext.refl _ | assumption | refine Ext.alloc ?_ _ | refine Ext.drew ?_ | refine Ext.trans ?_ (by assumption)))⟩, by simp [intOf]; omega⟩
          · have hN := hide (show left[p]? = some (pickV (W left) (left.take (j + 1))) by have h := HN.out false (by simp; omega); rwa [if_neg (by decide)] at h)
            clear HN
            go_wp2
            refine wp_region_X (by kernel_rfl) (by kernel_rfl) ?_
            repeat' (refine wpX_stepQ (fun K hK => ?_)
                     go_simp
                     try (rw [if_neg (by intro h; simp [undef] at h)])
                     try split
                     all_goals
                       first
                       | (refine hK _ ?_
                          clear hK K)
                       | (apply Exists.intro
                          refine ⟨fun wq hwq => ?_, hK _ ?_⟩
                          · have hcq := hwq.cellS
                            go_simp
                            first
                            | exact ⟨Ext.refl _, rfl⟩
                            | exact ⟨Ext.refl _, HC.out x _ hxm (by repeat (first | exact Ext.refl _ | assumption | refine Ext.alloc ?_ _ | refine Ext.drew ?_ | refine Ext.trans ?_ (by assumption)))⟩
                            | exact ⟨Ext.refl _, HC.out y _ hym (by repeat (first | exact Ext.refl _ | assumption | refine Ext.alloc ?_ _ | refine Ext.drew ?_ | refine Ext.trans ?_ (by assumption)))⟩
                          clear hK K))
            refine wpX_nil (fun wz hwz => ?_)
            go_wp2
            exact ⟨⟨j + 1, p, by omega, hp, by go_num, rfl, ⟨fun h => absurd h (by omega), fun _ => hN.out⟩, (by repeat (first | exact Ext.refl _ | assumption | refine Ext.alloc ?_ _ | refine Ext.drew ?_ | refine Ext.trans ?_ (by assumption)))⟩, by simp [intOf]; omega⟩
        · have hjm : j = m := by omega
          have hpick := hjp.out.2 (by omega)
          rw [hjm, List.take_of_length_le (by rw [HLL.out]; omega)] at hpick
          have hpf := hfl.out p _ hpick
          have d0 := (hB.ext hwr').cell p hp
          rw [hpf] at d0
          have HPK := hide hpick
          have hlow := hw.size
          have hwz := hwr'.size
          have hone : ∀ t, t < m → (f t).oneCell' = true := fun t ht => by
            obtain ⟨x, hx⟩ := at_of_lt (xs := left) (k := t) (by rw [HLL.out]; exact ht)
            rw [hfl.out t x hx]; rfl
          have HONE := hide hone
          have hBw := hB.ext hwr'
          clear hpf hpick hone hB
          go_wp2_with (at_builtin; refine wpList_appF wb.heap.size _ rfl _ _ rfl _ (elimL n W k) _ rfl (hown.ext (by repeat (first | exact Ext.refl _ | assumption | refine Ext.alloc ?_ _ | refine Ext.drew ?_ | refine Ext.trans ?_ (by assumption)))) (by omega) rfl (by omega) ?_; intro v' w3 hown3 hg3 hf3)
          have hrow : ∀ b, u5.ownBlock = some b → wb.heap.size ≤ b := fun b hb => ownsRow_block hown b hb
          have hB3 := hBw.grown hg3 (fun b hb => by have := hrow b hb; omega)
          have hE3 : Ext w w3 := Ext.grown (hwr.trans hwr') hg3 (fun b hb => by have := hrow b hb; omega)
          have hz3 := hg3.size
          clear hBw hrow hg3 hf3 d0
          have HC2 := hide (del1 w3 g m n p f hB3 hp hmn HONE.out)
          clear hB3 HONE
          go_wp2_with fail
          refine HC2.out.mono ?_
          rintro e w4 ⟨rfl, hB4, hO4⟩
          have hz4 := hO4.size
          go_wp2
          refine ⟨⟨k + 1, fun t => if t < p then f t else f (t + 1), by omega, ?_, ?_, ?_, fun j x hx => ?_, Only.ext hE3 hO4 hgw, by omega⟩, (show m - 1 < m by omega)⟩
          · rw [show n - (k + 1) = m - 1 by omega]
          · have h := hown3.only hgl hO4
            show OwnI _ _ _ (elimL n W k ++ [pickV (W (leftL n (elimL n W k))) (leftL n (elimL n W k))])
            rw [← HLT.out]
            exact h
          · rw [show n - (k + 1) = m - 1 by omega]
            exact hB4
          · have hpk := HPK.out
            rw [HLT.out] at hpk
            have he : leftL n (elimL n W (k + 1)) = left.eraseIdx p := by
              show leftL n (elimL n W k ++ [pickV (W (leftL n (elimL n W k))) (leftL n (elimL n W k))]) = _
              rw [HLT.out]
              exact (leftL_erase hpk).symm
            rw [he, List.getElem?_eraseIdx] at hx
            show (if j < p then f j else f (j + 1)) = _
            by_cases e : j < p
            · rw [if_pos e] at hx ⊢
              exact hfl.out j x hx
            · rw [if_neg e] at hx ⊢
              exact hfl.out (j + 1) x hx
    · have hkn : k = n := by omega
      go_wp2
      go_ret
      refine ⟨_, rfl, ?_, hwr⟩
      have he : elimO n vs W = elimL n W k := by simp [elimO, h0, hkn]
      rw [he]
      exact hown.base hw.size

end Go.Proofs.Ytacmabdeocmheaa
