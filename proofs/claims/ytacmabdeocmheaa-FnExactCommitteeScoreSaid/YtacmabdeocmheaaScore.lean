/- The score of a committee, in both packages; how many voters it covers. -/
import Derived.Test.YtacmabdeocmheaaScores
namespace Go.Proofs.Ytacmabdeocmheaa
open Go.RowKit

/-- A sum over a list. -/
def sumM {α : Type} (f : α → Int) (xs : List α) : Int := (xs.map f).sum
set_option maxRecDepth 100000 in
theorem sumM_at {α : Type} {f : α → Int} {xs : List α} {k : Nat} {x : α} (hx : xs[k]? = some x) : sumM f (xs.take (k + 1)) = sumM f (xs.take k) + f x := by
  rw [take_at hx]; simp [sumM]
set_option maxRecDepth 100000 in
theorem sumM_bd {α : Type} {f : α → Int} {xs : List α} {c : Int} (h : ∀ x ∈ xs, 0 ≤ f x ∧ f x ≤ c) : ∀ k : Nat, k ≤ xs.length → 0 ≤ sumM f (xs.take k) ∧ sumM f (xs.take k) ≤ c * k
  | 0, _ => by simp [sumM]
  | k + 1, hk => by
    obtain ⟨x, hx⟩ := at_of_lt (xs := xs) (k := k) (by omega)
    have h1 := sumM_bd h k (by omega)
    have h2 := h x (List.mem_of_getElem? hx)
    rw [sumM_at hx, show c * ((k + 1 : Nat) : Int) = c * k + c by rw [Int.natCast_add, Int.mul_add]; simp]
    omega

/-- c * 60 / 1 + .. + c * 60 / n. -/
def harm (c : Int) : Nat → Int
  | 0 => 0
  | n + 1 => harm c n + c * 60 / ((n : Int) + 1)
set_option maxRecDepth 100000 in
theorem harm_bd {c : Int} (h0 : 1 ≤ c) (h1 : c ≤ 1000) : ∀ n : Nat, 0 ≤ harm c n ∧ harm c n ≤ 60000 * n
  | 0 => by simp [harm]
  | n + 1 => by
    have h := harm_bd h0 h1 n
    have hd : 0 ≤ c * 60 / ((n : Int) + 1) := Int.ediv_nonneg (by omega) (by omega)
    have hd2 : c * 60 / ((n : Int) + 1) ≤ c * 60 := Int.ediv_le_self _ (by omega)
    simp only [harm]
    omega
set_option maxRecDepth 100000 in
theorem harm_mono {c : Int} (h0 : 1 ≤ c) : ∀ (n m : Nat), n ≤ m → harm c n ≤ harm c m := fun n m h => by
  induction h with
  | refl => exact Int.le_refl _
  | @step m _ ih =>
    have hd : 0 ≤ c * 60 / ((m : Int) + 1) := Int.ediv_nonneg (by omega) (by omega)
    simp only [harm]
    omega
def scOne (set : Int) (x : Int × Int) : Int := harm x.2 (cntTo (landI x.1 set) 6).toNat
def scoreOf (bs : List (Int × Int)) (set : Int) : Int := sumM (scOne set) bs
set_option maxRecDepth 100000 in
theorem cnt6 (s : Int) : ∃ n : Nat, cntTo s 6 = (n : Int) ∧ n ≤ 6 := ⟨(cntTo s 6).toNat, by have := cnt_bd s 6; omega, by have := cnt_bd s 6; omega⟩
set_option maxRecDepth 100000 in
theorem scOne_bd {x : Int × Int} (h0 : 1 ≤ x.2) (h1 : x.2 ≤ 1000) (set : Int) : 0 ≤ scOne set x ∧ scOne set x ≤ 360000 := by
  obtain ⟨n, hn, h6⟩ := cnt6 (landI x.1 set)
  unfold scOne
  rw [hn, Int.toNat_natCast]
  have := harm_bd h0 h1 n
  omega
set_option maxRecDepth 100000 in
theorem score_bd {bs : List (Int × Int)} (h : Small bs) (set : Int) (k : Nat) (hk : k ≤ bs.length) : 0 ≤ sumM (scOne set) (bs.take k) ∧ sumM (scOne set) (bs.take k) ≤ 360000 * k :=
  sumM_bd (fun x hx => scOne_bd (h.2 x hx).2.2.1 (h.2 x hx).2.2.2 set) k hk

set_option maxRecDepth 100000 in
set_option maxHeartbeats 4000000 in
theorem score_impl (w : World) (sz set : Int) (a : Option Addr) (c : Nat) (bs : List (Int × Int)) (hR : RdP w a bs) (hS : Small bs) (s0 : 0 ≤ set) (s63 : set ≤ 63) :
    Calls Try.prog 119 #[.agg #[.int .i64 sz, .slice a bs.length c], .int .i64 set] w fun e w' => e = .returned (.int .i64 (scoreOf bs set)) ∧ Ext w w' := by
  have HS := hide hS
  have hl := hS.1
  clear hS
  go_enter Try.func119, Try.ntmps119
  go_wp2_with fail
  go_loopw [5, 7, 8, 12] (fun s _ _ i wr => ∃ k : Nat, k ≤ bs.length ∧ i = .int .i64 k ∧ s = .int .i64 (sumM (scOne set) (bs.take k)) ∧ Ext w wr) (fun _ _ _ i _ => bs.length - (intOf i).toNat)
  case atStart => exact ⟨0, Nat.zero_le _, rfl, rfl, (by repeat (first | exact Ext.refl _ | assumption | refine Ext.alloc ?_ _ | refine Ext.drew ?_ | refine Ext.trans ?_ (by assumption)))⟩
  case round =>
    obtain ⟨k, hk, rfl, rfl, hwr⟩ := hrel
    obtain ⟨b1, b2⟩ := score_bd HS.out set k hk
    by_cases hlt : k < bs.length
    · obtain ⟨x, hx⟩ := at_of_lt hlt
      obtain ⟨b, off, rfl, c0, c1⟩ := (hR.ext hwr).at_ hx
      obtain ⟨x0, x63, x1, x2⟩ := HS.out.2 x (List.mem_of_getElem? hx)
      have HX := hide hx
      clear hx
      obtain ⟨l0, l1⟩ := landI_bd s0 s63 x0 x63
      obtain ⟨n, hn, h6⟩ := cnt6 (landI set x.1)
      have HN := hide hn
      clear hn
      obtain ⟨wo, rfl⟩ : ∃ wo : World, wo = wr := ⟨_, rfl⟩
      go_wp2_with fail
      have e0 := new0 wo (.int .i64 x.1) [.int .i64 x.2] 72
      have e1 := new1 wo (.int .i64 x.1) (.int .i64 x.2) [] 72
      go_loopw [5, 8] (fun s i wr => ∃ j : Nat, j ≤ n ∧ i = .int .i64 ((j : Int) + 1) ∧ s = .int .i64 (sumM (scOne set) (bs.take k) + harm x.2 j) ∧ Ext (wo.alloc (.cells #[.int .i64 x.1, .int .i64 x.2] 72)) wr) (fun _ i _ => n + 1 - (intOf i).toNat)
      case atStart => exact ⟨0, Nat.zero_le _, rfl, by simp [harm], Ext.refl _⟩
      case round =>
        obtain ⟨j, hj, rfl, rfl, hwr2⟩ := hrel
        obtain ⟨g1, g2⟩ := harm_bd x1 x2 j
        have e0 := hwr2.keep e0
        have e1 := hwr2.keep e1
        unfold landI at l0 l1
        have hcn := size_impl (s := bits BinOp.and IntKind.i64 set x.1) (h0 := l0) (h63 := l1)
        rw [show cntTo (bits BinOp.and IntKind.i64 set x.1) 6 = (n : Int) from HN.out] at hcn
        have HC := hide hcn
        clear hcn
        by_cases hjn : j < n
        · go_wp2_with (go_at_call 52; refine (HC.out _).mono ?_; rintro e w1 ⟨rfl, hw1⟩; have e0 := Ext.keep (w' := w1) (by repeat (first | exact Ext.refl _ | assumption | refine Ext.alloc ?_ _ | refine Ext.drew ?_ | refine Ext.trans ?_ (by assumption))) e0; have e1 := Ext.keep (w' := w1) (by repeat (first | exact Ext.refl _ | assumption | refine Ext.alloc ?_ _ | refine Ext.drew ?_ | refine Ext.trans ?_ (by assumption))) e1)
          have hj1 := harm_bd x1 x2 (j + 1)
          simp only [harm] at hj1
          exact ⟨⟨j + 1, by omega, by go_num, by rw [IntWalk.wrap64_in _ (by omega)]; simp only [harm]; congr 1; omega, (by repeat (first | exact Ext.refl _ | assumption | refine Ext.alloc ?_ _ | refine Ext.drew ?_ | refine Ext.trans ?_ (by assumption)))⟩, by simp [intOf]; omega⟩
        · obtain rfl : j = n := by omega
          go_wp2_with (go_at_call 52; refine (HC.out _).mono ?_; rintro e w1 ⟨rfl, hw1⟩; have e0 := Ext.keep (w' := w1) (by repeat (first | exact Ext.refl _ | assumption | refine Ext.alloc ?_ _ | refine Ext.drew ?_ | refine Ext.trans ?_ (by assumption))) e0; have e1 := Ext.keep (w' := w1) (by repeat (first | exact Ext.refl _ | assumption | refine Ext.alloc ?_ _ | refine Ext.drew ?_ | refine Ext.trans ?_ (by assumption))) e1)
          exact ⟨⟨k + 1, by omega, by go_num, by rw [sumM_at HX.out, scOne, landI_comm, HN.out, Int.toNat_natCast], (by repeat (first | exact Ext.refl _ | assumption | refine Ext.alloc ?_ _ | refine Ext.drew ?_ | refine Ext.trans ?_ (by assumption)))⟩, by simp [intOf]; omega⟩
    · go_wp2
      go_ret
      exact ⟨ret_int (by rw [List.take_of_length_le (by omega)]; rfl), hwr⟩

set_option maxRecDepth 100000 in
set_option maxHeartbeats 4000000 in
theorem score_spec (w : World) (sz set : Int) (a : Option Addr) (c : Nat) (bs : List (Int × Int)) (hR : RdP w a bs) (hS : Small bs) (s0 : 0 ≤ set) (s63 : set ≤ 63) :
    Calls Try.prog 115 #[.agg #[.int .i64 sz, .slice a bs.length c], .int .i64 set] w fun e w' => e = .returned (.int .i64 (scoreOf bs set)) ∧ Ext w w' := by
  have HS := hide hS
  have hl := hS.1
  clear hS
  go_enter Try.func115, Try.ntmps115
  go_wp2_with fail
  go_loopw [5, 7, 8, 12] (fun s _ _ i wr => ∃ k : Nat, k ≤ bs.length ∧ i = .int .i64 k ∧ s = .int .i64 (sumM (scOne set) (bs.take k)) ∧ Ext w wr) (fun _ _ _ i _ => bs.length - (intOf i).toNat)
  case atStart => exact ⟨0, Nat.zero_le _, rfl, rfl, (by repeat (first | exact Ext.refl _ | assumption | refine Ext.alloc ?_ _ | refine Ext.drew ?_ | refine Ext.trans ?_ (by assumption)))⟩
  case round =>
    obtain ⟨k, hk, rfl, rfl, hwr⟩ := hrel
    obtain ⟨b1, b2⟩ := score_bd HS.out set k hk
    by_cases hlt : k < bs.length
    · obtain ⟨x, hx⟩ := at_of_lt hlt
      obtain ⟨b, off, rfl, c0, c1⟩ := (hR.ext hwr).at_ hx
      obtain ⟨x0, x63, x1, x2⟩ := HS.out.2 x (List.mem_of_getElem? hx)
      have HX := hide hx
      clear hx
      obtain ⟨l0, l1⟩ := landI_bd x0 x63 s0 s63
      obtain ⟨n, hn, h6⟩ := cnt6 (landI x.1 set)
      have HN := hide hn
      clear hn
      have hnb := harm_bd x1 x2 n
      obtain ⟨nb0, nb1⟩ := hnb
      have hcn := cnt_spec (s := landI x.1 set) (h0 := l0) (h63 := l1)
      rw [HN.out] at hcn
      unfold landI at l0 l1 hcn
      have HC := hide hcn
      clear hcn
      obtain ⟨wo, rfl⟩ : ∃ wo : World, wo = wr := ⟨_, rfl⟩
      have e0 := new0 wo (.int .i64 x.1) [.int .i64 x.2] 72
      have e1 := new1 wo (.int .i64 x.1) (.int .i64 x.2) [] 72
      go_wp2_with (go_at_call 224; refine (HC.out _).mono ?_; rintro e w1 ⟨rfl, hw1⟩; have e0 := Ext.keep (w' := w1) (by repeat (first | exact Ext.refl _ | assumption | refine Ext.alloc ?_ _ | refine Ext.drew ?_ | refine Ext.trans ?_ (by assumption))) e0; have e1 := Ext.keep (w' := w1) (by repeat (first | exact Ext.refl _ | assumption | refine Ext.alloc ?_ _ | refine Ext.drew ?_ | refine Ext.trans ?_ (by assumption))) e1)
      obtain ⟨W1, rfl⟩ : ∃ W1 : World, W1 = w1 := ⟨_, rfl⟩
      go_loopw [5, 8] (fun s i wr => ∃ j : Nat, j ≤ n ∧ i = .int .i64 (j : Int) ∧ s = .int .i64 (sumM (scOne set) (bs.take k) + (harm x.2 n - harm x.2 j)) ∧ Ext W1 wr) (fun _ i _ => (intOf i).toNat)
      case atStart => exact ⟨n, Nat.le_refl _, rfl, by simp, Ext.refl _⟩
      case round =>
        obtain ⟨j, hj, rfl, rfl, hwr2⟩ := hrel
        obtain ⟨g1, g2⟩ := harm_bd x1 x2 j
        have g3 := harm_mono x1 j n hj
        have e0 := hwr2.keep e0
        have e1 := hwr2.keep e1
        cases j with
        | succ i =>
          have hi1 := harm_bd x1 x2 i
          simp only [harm] at g1 g2 g3
          go_wp2
          refine ⟨⟨i, by omega, by go_num, ?_, hwr2⟩, by simp [intOf]⟩
          simp only [harm]
          rw [IntWalk.wrap64_in _ (by omega)]
          congr 1
          omega
        | zero =>
          go_wp2
          exact ⟨⟨k + 1, by omega, by go_num, by rw [sumM_at HX.out, scOne, HN.out, Int.toNat_natCast]; simp [harm], (by repeat (first | exact Ext.refl _ | assumption | refine Ext.alloc ?_ _ | refine Ext.drew ?_ | refine Ext.trans ?_ (by assumption)))⟩, by simp [intOf]; omega⟩
    · go_wp2
      go_ret
      exact ⟨ret_int (by rw [List.take_of_length_le (by omega)]; rfl), hwr⟩

end Go.Proofs.Ytacmabdeocmheaa
