/- Pairs of a ranking that are turned, counted by the program. -/
import Derived.Test.YtacmabdeocmheaaBack
import Derived.Test.YtacmabdeocmheaaAppG
namespace Go.Proofs.Ytacmabdeocmheaa
open Go.RowKit

set_option maxRecDepth 100000 in
theorem bkTo_bd (q : Int → Int → Bool) (r : List Int) : ∀ k, bkTo q r k ≤ k * r.length
  | 0 => by simp [bkTo]
  | k + 1 => by
    have h := bkTo_bd q r k
    have h2 := List.countP_le_length (p := fun y => q y (r.getD k 0)) (l := r.drop (k + 1))
    rw [List.length_drop] at h2
    rw [bkTo, Nat.succ_mul]
    omega
set_option maxRecDepth 100000 in
theorem countP_at {p : Int → Bool} {xs : List Int} {k : Nat} {x : Int} (h : xs[k]? = some x) : (xs.take (k + 1)).countP p = (xs.take k).countP p + if p x then 1 else 0 := by
  rw [take_at h, List.countP_append, List.countP_cons, List.countP_nil]; simp

set_option maxRecDepth 100000 in
set_option maxHeartbeats 4000000 in
theorem back_impl (K : Nat) (fst cap : Array Value) (q : Int → Int → Bool) (w : World) (sz : Int) (ap : Option Addr) (np cp : Nat) (a : Option Addr) (c : Nat) (xs : List Int) (hR : RdI w a xs) (hl : xs.length ≤ 5) (hc : xs.length ≤ c) (hK : Enters Try.prog K)
    (hf : ∀ (x y : Int) (w' : World), x ∈ xs → y ∈ xs → Ext w w' → Calls Try.prog K (fst ++ (#[.int .i64 x, .int .i64 y] ++ cap)) w' fun e w'' => e = .returned (.bool (q x y)) ∧ Ext w' w'') :
    Calls Try.prog 137 #[.agg #[.int .i64 sz, .slice ap np cp], .slice a xs.length c, .func (.func K) fst cap] w fun e w' => e = .returned (.int .i64 (bkI q xs : Nat)) ∧ Ext w w' := by
  unfold Enters at hK
  have HF := hide hf
  clear hf
  go_enter Try.func137, Try.ntmps137
  go_wp2_with fail
  have hE0 := Ext.new w (.cells #[.int .i64 sz, .slice ap np cp] 43)
  generalize w.alloc (.cells #[.int .i64 sz, .slice ap np cp] 43) = W0 at hE0 ⊢
  go_loopw [7, 8, 9, 11, 14, 22, 23, 24] (fun n _ _ _ i _ _ _ wr => ∃ j : Nat, j ≤ xs.length ∧ i = .int .i64 j ∧ n = .int .i64 (bkTo q xs j : Nat) ∧ Ext w wr) (fun _ _ _ _ i _ _ _ _ => xs.length - (intOf i).toNat)
  case atStart => exact ⟨0, Nat.zero_le _, rfl, rfl, hE0⟩
  case round =>
    clear hE0
    obtain ⟨j, hj, rfl, rfl, hwr⟩ := hrel
    have hbd := bkTo_bd q xs j
    have hbd2 : bkTo q xs j ≤ 5 * 5 := Nat.le_trans hbd (Nat.mul_le_mul (by omega) hl)
    by_cases hjt : j < xs.length
    · obtain ⟨x, hx⟩ := at_of_lt hjt
      have hxm := List.mem_of_getElem? hx
      obtain ⟨b, off, rfl, c0⟩ := (hR.ext hwr).at_ hx
      have hRd := (hR.ext hwr).drop (n := off + (j + 1)) (j + 1) c hc rfl
      have i1 : (j : Int) + 1 ≤ (c : Int) := by omega
      have i2 : j ≤ c := by omega
      have i3 : j + 1 ≤ c := by omega
      have i4 : j + 1 ≤ xs.length := by omega
      have i7 : (j : Int) + 1 ≤ (xs.length : Int) := by omega
      have i5 : ((j : Int) + 1).toNat = j + 1 := by omega
      have i6 : (0 : Int) ≤ (j : Int) + 1 := by omega
      have y1 : wrap64 ((j : Int) + 1) = (j : Int) + 1 := IntWalk.wrap64_in _ (by omega)
      have y2 : IntKind.i64.wrap ((j : Int) + 1) = (j : Int) + 1 := IntWalk.i64_in _ (by omega)
      have hgd : xs.getD j 0 = x := by simp [List.getD, hx]
      have hsu : bkTo q xs (j + 1) = bkTo q xs j + ((xs.drop (j + 1)).countP (fun y => q y x)) := by rw [bkTo, hgd]
      have HSU := hide hsu
      have hdl : (xs.drop (j + 1)).length = xs.length - (j + 1) := List.length_drop
      have HDL := hide hdl
      have HDM : Hid (∀ y ∈ xs.drop (j + 1), y ∈ xs) := fun y hy => List.mem_of_mem_drop hy
      clear hx hgd hsu hdl
      go_wp2_with fail
      all_goals
        first | rw [if_pos (by assumption)] at hRd | rw [if_neg (by assumption)] at hRd
        first | subst h | clear h
        clear i1 i2 i3 i4 i5 i6 i7 y1 y2
        generalize xs.drop (j + 1) = ys at hRd HSU HDL HDM
        obtain ⟨wo, hwo⟩ : ∃ wo : World, wo = wr := ⟨_, rfl⟩
        subst hwo
        go_loopw [7, 11, 24] (fun n _ i wr => ∃ m : Nat, m ≤ xs.length - (j + 1) ∧ i = .int .i64 m ∧ n = .int .i64 ((bkTo q xs j : Int) + ((ys.take m).countP (fun y => q y x) : Int)) ∧ Ext wo wr) (fun _ _ i _ => xs.length - (j + 1) - (intOf i).toNat)
        case atStart => exact ⟨0, Nat.zero_le _, rfl, by simp, Ext.refl _⟩
        case round =>
          obtain ⟨m, hm, rfl, rfl, hwr2⟩ := hrel
          by_cases hmt : m < xs.length - (j + 1)
          · obtain ⟨y, hy⟩ := at_of_lt (xs := ys) (k := m) (by have := HDL.out; omega)
            obtain ⟨b2, off2, hb2, d0⟩ := (hRd.ext hwr2).at_ hy
            injection hb2 with hb2
            injection hb2 with hb2 hb3
            subst hb2
            subst hb3
            have hcm := List.countP_le_length (p := fun y => q y x) (l := ys.take m)
            rw [List.length_take] at hcm
            have hm2 : (ys.take m).countP (fun y => q y x) ≤ 5 := by omega
            have y3 : wrap64 ((bkTo q xs j : Int) + ((ys.take m).countP (fun y => q y x) : Int) + 1) = (bkTo q xs j : Int) + ((ys.take m).countP (fun y => q y x) : Int) + 1 := IntWalk.wrap64_in _ (by omega)
            have HN := hide (countP_at (p := fun y => q y x) hy)
            have hym := HDM.out y (List.mem_of_getElem? hy)
            clear hy hcm
            have HC := hide (HF.out y x wr hym hxm (hwr.trans hwr2))
            cases hq : q y x
            all_goals
              rw [hq] at HC HN
              go_wp2_with fail
              all_goals refine HC.out.mono ?_
              all_goals rintro e w1 ⟨rfl, hw1⟩
              all_goals go_wp2
              all_goals refine ⟨⟨m + 1, by omega, by go_num, ?_, hwr2.trans hw1⟩, by simp [intOf]; omega⟩
              all_goals rw [HN.out]
              all_goals simp
              all_goals omega
          · have hmn : m = xs.length - (j + 1) := by omega
            have hyl := HDL.out
            go_wp2
            refine ⟨⟨j + 1, by omega, by go_num, ?_, hwr.trans hwr2⟩, by simp [intOf]; omega⟩
            rw [HSU.out, List.take_of_length_le (by omega), Int.natCast_add]
    · have hjn : j = xs.length := by omega
      go_wp2
      go_ret
      exact ⟨ret_int (by rw [hjn, bkTo_all]), hwr⟩

end Go.Proofs.Ytacmabdeocmheaa
