/- The library's searches over integers. -/
import Derived.Test.YtacmabdeocmheaaMem
namespace Go.Proofs.Ytacmabdeocmheaa
open Go.RowKit
/-- The place of the first element with a property, or -1. -/
def findI {α : Type} (p : α → Bool) (xs : List α) : Int := match xs.findIdx? p with | some i => (i : Int) | none => -1

set_option maxRecDepth 100000 in
theorem findI_none {α : Type} {p : α → Bool} {xs : List α} (h : xs.all (fun x => !p x) = true) : findI p xs = -1 := by
  have : xs.findIdx? p = none := by rw [List.findIdx?_eq_none_iff]; intro x hx; have := List.all_eq_true.1 h x hx; simpa using this
  simp [findI, this]

set_option maxRecDepth 100000 in
theorem findI_some {α : Type} {p : α → Bool} {xs : List α} {k : Nat} {x : α} (hx : xs[k]? = some x) (h : (xs.take k).all (fun x => !p x) = true) (hp : p x = true) : findI p xs = (k : Int) := by
  have : xs.findIdx? p = some k := by
    rw [List.findIdx?_eq_some_iff_getElem]
    have hk := lt_of_at hx
    refine ⟨hk, ?_, fun j hj => ?_⟩
    · rw [List.getElem?_eq_getElem hk] at hx; simp at hx; rw [hx]; exact hp
    · have h1 := List.all_eq_true.1 h xs[j] (by rw [List.mem_take_iff_getElem]; exact ⟨j, by omega, rfl⟩)
      simpa using h1
  simp [findI, this]

set_option maxRecDepth 100000 in
theorem findI_nonneg {α : Type} (p : α → Bool) (xs : List α) : decide (0 ≤ findI p xs) = xs.any p := by
  unfold findI
  cases h : xs.findIdx? p with
  | none =>
    rw [List.findIdx?_eq_none_iff] at h
    have : xs.any p = false := by rw [List.any_eq_false]; intro x hx; simp [h x hx]
    simp [this]
  | some i =>
    rw [List.findIdx?_eq_some_iff_getElem] at h
    obtain ⟨hk, hp, _⟩ := h
    have : xs.any p = true := List.any_eq_true.2 ⟨xs[i], List.getElem_mem hk, hp⟩
    simp [this]

set_option maxRecDepth 100000 in
set_option maxHeartbeats 1000000 in
theorem indexI (w : World) (a : Option Addr) (c : Nat) (xs : List Int) (x : Int) (hR : RdI w a xs) (hl : xs.length ≤ 2000000) :
    Calls Try.prog 240 #[.slice a xs.length c, .int .i64 x] w fun e w' => e = .returned (.int .i64 (findI (fun y => x == y) xs)) ∧ Ext w w' := by
  go_enter Try.func240, Try.ntmps240
  go_wp2_with fail
  go_loopw [5, 8] (fun _ i wr => ∃ k : Nat, k ≤ xs.length ∧ i = .int .i64 k ∧ (xs.take k).all (fun y => !(x == y)) = true ∧ Ext w wr) (fun _ i _ => xs.length - (intOf i).toNat)
  case atStart => exact ⟨0, Nat.zero_le _, rfl, rfl, Ext.refl _⟩
  case round =>
    obtain ⟨k, hk, rfl, hall, hwr⟩ := hrel
    have HA := hide hall
    clear hall
    by_cases hlt : k < xs.length
    · obtain ⟨y, hy⟩ := at_of_lt hlt
      obtain ⟨b, off, rfl, c0⟩ := (hR.ext hwr).at_ hy
      have HY := hide hy
      clear hy
      cases hp : (x == y)
      all_goals go_wp2
      · exact ⟨⟨k + 1, by omega, by go_num, (all_take HY.out HA.out).trans (by simp [hp]), hwr⟩, by simp [intOf]; omega⟩
      · go_ret
        exact ⟨ret_int (findI_some HY.out HA.out hp).symm, hwr⟩
    · go_wp2
      go_ret
      exact ⟨ret_int (findI_none (all_whole (by omega) HA.out)).symm, hwr⟩

def hasI (xs : List Int) (x : Int) : Bool := xs.contains x

set_option maxRecDepth 100000 in
set_option maxHeartbeats 1000000 in
theorem containsI (w : World) (B : Nat) (v : Value) (xs : List Int) (x : Int) (hV : RdB w B v xs) (hl : xs.length ≤ 2000000) :
    Calls Try.prog 151 #[v, .int .i64 x] w fun e w' => e = .returned (.bool (hasI xs x)) ∧ Ext w w' := by
  obtain ⟨a, c, rfl, hR, _⟩ := hV
  go_enter Try.func151, Try.ntmps151
  go_wp2_with (go_at_call 240; refine (indexI _ _ _ _ _ hR hl).mono ?_; rintro e w1 ⟨rfl, hw1⟩)
  go_ret
  refine ⟨ret_bool ?_, hw1⟩
  have h := findI_nonneg (fun y => x == y) xs
  have e : xs.any (fun y => x == y) = xs.contains x := by
    rw [Bool.eq_iff_iff, List.any_eq_true, List.contains_iff_mem]
    constructor
    · rintro ⟨y, hy, he⟩
      have : x = y := by simpa using he
      subst this; exact hy
    · intro hx; exact ⟨x, hx, by simp⟩
  unfold hasI
  rw [← e, ← h]

end Go.Proofs.Ytacmabdeocmheaa
