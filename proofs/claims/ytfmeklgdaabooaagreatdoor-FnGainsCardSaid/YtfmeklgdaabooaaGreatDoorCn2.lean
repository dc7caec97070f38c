/- Profiles in memory: a slice of votes reads as a list of rankings with counts. What the statements' reading of profiles says of memory. Which approvals are valid: both packages' tests answer as one plain function. The library's searches over approvals, with a function value that only adds memory. The program's own test of approvals. How many bits a small number has: the library's function at each of 64 numbers. Counting the members of a set. SeatsFor of both packages. The statements' own helpers on profiles: measured and copied. Lists of integers as the statements' helpers meet them: compared, marked, held. Lists of integers that may be written. -/
import Derived.Test.YtfmeklgdaabooaaGreatDoorCn1
namespace Go.Proofs.YtfmeklgdaabooaaGreatDoor
open Go.RowKit

abbrev Vt := List Int × Int
/-- The slice address a reads as the votes vs. -/
def RdV (w : World) (a : Option Addr) (vs : List Vt) : Prop :=
  vs ≠ [] → ∃ b off, a = some ⟨b, off, none⟩ ∧ ∀ (j : Nat) (x : Vt), vs[j]? = some x → ∃ a' c', w.cell? ⟨b, off + j * 2, none⟩ = some (.slice a' x.1.length c') ∧
    w.cell? ⟨b, off + j * 2 + 1, none⟩ = some (.int .i64 x.2) ∧ x.1.length ≤ c' ∧ RdI w a' x.1
set_option maxRecDepth 100000 in
theorem RdV.ext {w w' : World} {a : Option Addr} {vs : List Vt} (h : RdV w a vs) (hw : Ext w w') : RdV w' a vs := fun hne => by
  obtain ⟨b, off, ha, hc⟩ := h hne
  refine ⟨b, off, ha, fun j x hx => ?_⟩
  obtain ⟨a', c', h0, h1, h2, h3⟩ := hc j x hx
  exact ⟨a', c', hw.keep h0, hw.keep h1, h2, h3.ext hw⟩
set_option maxRecDepth 100000 in
theorem RdV.nil (w : World) (a : Option Addr) : RdV w a [] := fun h => absurd rfl h
set_option maxRecDepth 100000 in
theorem RdV.at_ {w : World} {a : Option Addr} {vs : List Vt} (h : RdV w a vs) {k : Nat} {x : Vt} (hx : vs[k]? = some x) :
    ∃ b off a' c', a = some ⟨b, off, none⟩ ∧ w.cell? ⟨b, off + k * 2, none⟩ = some (.slice a' x.1.length c') ∧ w.cell? ⟨b, off + k * 2 + 1, none⟩ = some (.int .i64 x.2) ∧ x.1.length ≤ c' ∧ RdI w a' x.1 := by
  obtain ⟨b, off, ha, hc⟩ := h (ne_of_at hx)
  obtain ⟨a', c', h⟩ := hc k x hx
  exact ⟨b, off, a', c', ha, h⟩

def vtOk (sz : Int) (x : Vt) : Bool := rkOk sz x.1 && inR x.2 1 1000
def profOk (sz : Int) (vs : List Vt) : Bool := inR sz 1 5 && (decide (vs.length ≤ 24) && vs.all (vtOk sz))

set_option maxRecDepth 100000 in
set_option maxHeartbeats 1000000 in
theorem indexFuncV (K : Nat) (fst cap : Array Value) (p : Vt → Bool) (w : World) (a : Option Addr) (c : Nat) (vs : List Vt) (hR : RdV w a vs) (hl : vs.length ≤ 2000000) (hK : Enters Tryz.prog K)
    (hf : ∀ (x : Vt) (a' : Option Addr) (c' : Nat) (w' : World), x ∈ vs → Ext w w' → RdI w' a' x.1 → x.1.length ≤ c' → Calls Tryz.prog K (fst.push (.agg #[.slice a' x.1.length c', .int .i64 x.2]) ++ cap) w' fun e w'' => e = .returned (.bool (p x)) ∧ Ext w' w'') :
    Calls Tryz.prog 66 #[.slice a vs.length c, .func (.func K) fst cap] w fun e w' => e = .returned (.int .i64 (findI p vs)) ∧ Ext w w' := by
  unfold Enters at hK
  have HF := hide hf
  clear hf
  go_enter Tryz.func66, Tryz.ntmps66
  go_wp2_with fail
  go_loopw [5, 8] (fun _ i wr => ∃ k : Nat, k ≤ vs.length ∧ i = .int .i64 k ∧ Hid ((vs.take k).all (fun x => !p x) = true) ∧ Ext w wr) (fun _ i _ => vs.length - (intOf i).toNat)
  case atStart => exact ⟨0, Nat.zero_le _, rfl, rfl, Ext.refl _⟩
  case round =>
    obtain ⟨k, hk, rfl, hall, hwr⟩ := hrel
    by_cases hlt : k < vs.length
    · obtain ⟨x, hx⟩ := at_of_lt hlt
      obtain ⟨b, off, a', c', rfl, c0, c1, hc', hRx⟩ := (hR.ext hwr).at_ hx
      have HX := hide hx
      clear hx
      cases hp : p x
      all_goals
        go_wp2_with fail
        refine (HF.out x a' c' wr (List.mem_of_getElem? HX.out) hwr hRx hc').mono ?_
        rintro e w1 ⟨rfl, hw1⟩
        go_wp2
      · exact ⟨⟨k + 1, by omega, by go_num, (all_take HX.out hall.out).trans (by simp [hp]), hwr.trans hw1⟩, by simp [intOf]; omega⟩
      · go_ret
        exact ⟨ret_int (findI_some HX.out hall.out hp).symm, hwr.trans hw1⟩
    · go_wp2
      go_ret
      exact ⟨ret_int (findI_none (all_whole (by omega) hall.out)).symm, hwr⟩

set_option maxRecDepth 100000 in
set_option maxHeartbeats 1000000 in
theorem containsFuncV (K : Nat) (fst cap : Array Value) (p : Vt → Bool) (w : World) (a : Option Addr) (c : Nat) (vs : List Vt) (hR : RdV w a vs) (hl : vs.length ≤ 2000000) (hK : Enters Tryz.prog K)
    (hf : ∀ (x : Vt) (a' : Option Addr) (c' : Nat) (w' : World), x ∈ vs → Ext w w' → RdI w' a' x.1 → x.1.length ≤ c' → Calls Tryz.prog K (fst.push (.agg #[.slice a' x.1.length c', .int .i64 x.2]) ++ cap) w' fun e w'' => e = .returned (.bool (p x)) ∧ Ext w' w'') :
    Calls Tryz.prog 41 #[.slice a vs.length c, .func (.func K) fst cap] w fun e w' => e = .returned (.bool (vs.any p)) ∧ Ext w w' := by
  have H := hide (indexFuncV K fst cap p w a c vs hR hl hK hf)
  clear hf
  go_enter Tryz.func41, Tryz.ntmps41
  go_wp2_with fail
  refine H.out.mono ?_
  rintro e w1 ⟨rfl, hw1⟩
  go_wp2
  go_ret
  exact ⟨ret_bool (findI_nonneg p vs), hw1⟩

set_option maxRecDepth 100000 in
set_option maxHeartbeats 1000000 in
theorem profOne_impl (w : World) (sz : Int) (b off : Nat) (a' : Option Addr) (c' : Nat) (x : Vt) (hRx : RdI w a' x.1) (hc' : x.1.length ≤ c')
    (h0 : w.cell? ⟨b, off, none⟩ = some (.int .i64 sz)) :
    Calls Tryz.prog 42 #[.agg #[.slice a' x.1.length c', .int .i64 x.2], .pointer (some ⟨b, off, none⟩)] w fun e w' => e = .returned (.bool (!vtOk sz x)) ∧ Ext w w' := by
  have e0 := new0 w (.slice a' x.1.length c') [.int .i64 x.2] 30
  have e1 := new1 w (.slice a' x.1.length c') (.int .i64 x.2) [] 30
  cases g1 : rkOk sz x.1
  all_goals
    go_enter Tryz.func42, Tryz.ntmps42
    go_wp2_with (first | (go_at_call 27; refine (rank_impl _ _ _ _ _ (hRx.ext (by repeat (first | exact Ext.refl _ | assumption | refine Ext.alloc ?_ _ | refine Ext.drew ?_ | refine Ext.trans ?_ (by assumption)))) hc').mono ?_; rintro e w1 ⟨rfl, hw1⟩; have e0 := Ext.keep (w' := w1) (by repeat (first | exact Ext.refl _ | assumption | refine Ext.alloc ?_ _ | refine Ext.drew ?_ | refine Ext.trans ?_ (by assumption))) e0; have e1 := Ext.keep (w' := w1) (by repeat (first | exact Ext.refl _ | assumption | refine Ext.alloc ?_ _ | refine Ext.drew ?_ | refine Ext.trans ?_ (by assumption))) e1) | (go_at_call 26; refine (in_impl _ _ _ _).mono ?_; rintro e w1 ⟨rfl, hw1⟩))
    go_ret
  · exact ⟨ret_bool (by simp [vtOk, g1]), (by repeat (first | exact Ext.refl _ | assumption | refine Ext.alloc ?_ _ | refine Ext.drew ?_ | refine Ext.trans ?_ (by assumption)))⟩
  · exact ⟨ret_bool (by simp [vtOk, g1]), (by repeat (first | exact Ext.refl _ | assumption | refine Ext.alloc ?_ _ | refine Ext.drew ?_ | refine Ext.trans ?_ (by assumption)))⟩

set_option maxRecDepth 100000 in
set_option maxHeartbeats 1000000 in
theorem prof_impl (w : World) (sz : Int) (a : Option Addr) (c : Nat) (vs : List Vt) (hR : RdV w a vs) :
    Calls Tryz.prog 25 #[.agg #[.int .i64 sz, .slice a vs.length c]] w fun e w' => e = .returned (.bool (profOk sz vs)) ∧ Ext w w' := by
  cases h1 : inR sz 1 5
  · go_enter Tryz.func25, Tryz.ntmps25
    go_wp2_with (go_at_call 26; refine (in_impl _ _ _ _).mono ?_; rintro e w1 ⟨rfl, hw1⟩; have hc1 := hw1.cellS; have hf1 := hw1.frozenS)
    go_ret
    exact ⟨ret_bool (by simp [profOk, h1]), (by repeat (first | exact Ext.refl _ | assumption | refine Ext.alloc ?_ _ | refine Ext.drew ?_ | refine Ext.trans ?_ (by assumption)))⟩
  by_cases hl : vs.length ≤ 24
  · have HC := hide (fun (w1 : World) (hw1 : Ext (w.alloc (.cells #[.int .i64 sz, .slice a vs.length c] 26)) w1) =>
      containsFuncV 42 #[] #[.pointer (some ⟨w.heap.size, 0, none⟩)] (fun x => !vtOk sz x) w1 a c vs (hR.ext hw1.a) (by omega) (fun _ _ => Tryz.call42 _ _)
        (fun x a' c' w' _ hw' hRx hc' => profOne_impl w' sz _ 0 a' c' x hRx hc' (hw'.keep (hw1.keep (new0 w _ _ _)))))
    go_enter Tryz.func25, Tryz.ntmps25
    go_wp2_with (go_at_call 26; refine (in_impl _ _ _ _).mono ?_; rintro e w1 ⟨rfl, hw1⟩; have hc1 := hw1.cellS; have hf1 := hw1.frozenS)
    refine (HC.out _ hw1).mono ?_
    rintro e w2 ⟨rfl, hw2⟩
    go_wp2
    go_ret
    exact ⟨ret_bool (by simp [profOk, h1, hl, any_not]), (by repeat (first | exact Ext.refl _ | assumption | refine Ext.alloc ?_ _ | refine Ext.drew ?_ | refine Ext.trans ?_ (by assumption)))⟩
  · go_enter Tryz.func25, Tryz.ntmps25
    go_wp2_with (go_at_call 26; refine (in_impl _ _ _ _).mono ?_; rintro e w1 ⟨rfl, hw1⟩; have hc1 := hw1.cellS; have hf1 := hw1.frozenS)
    go_ret
    exact ⟨ret_bool (by simp [profOk, hl]), (by repeat (first | exact Ext.refl _ | assumption | refine Ext.alloc ?_ _ | refine Ext.drew ?_ | refine Ext.trans ?_ (by assumption)))⟩

open Go.ChangeShapes Go.WideShapes Go.ChangeAt Go.RowKit Go.Joins Go.Deep

section
variable {H : Type} {enc : TypeId × Value → H} {W : World} {base : Nat} {spare : Nat → Bool} {held : Bool} {b0 : Nat}
set_option maxRecDepth 100000 in
theorem openI_trod {fuel : Nat} {v : Value} {x : DataW H × List MemPlace} (h : DataW.trod enc Tryz.prog W base spare held fuel 28 [v] = some x) :
    ∃ (a : Option Addr) (xs : List Int) (c : Nat), v = .slice a xs.length c ∧ RdI W a xs ∧ xs.length ≤ c ∧ xs.length ≤ maxLen := by
  rcases open_ints Tryz.underlying28 Tryz.underlying3 (by kernel_rfl) h with ⟨e1, _⟩ | ⟨a, len, cap, zs, e1, _, hl, hm, hzl, _, hc, _⟩
  · simp at e1
    subst e1
    exact ⟨none, [], 0, rfl, RdI.nil _ _, Nat.le_refl _, by simp⟩
  · simp at e1
    subst e1
    have hle : len ≤ zs.length := by rw [hzl]; split <;> omega
    have htl : (zs.take len).length = len := by simp; omega
    refine ⟨some a, zs.take len, cap, by rw [htl], fun hne => ?_, by omega, by omega⟩
    have hpos : 0 < len := by have := List.length_pos_iff.2 hne; omega
    have h0 := hc 0 (by omega)
    obtain ⟨b, off, spot⟩ := a
    have hspot : spot = none := by simpa [Addr.add] using World.cell?_spot h0
    subst hspot
    refine ⟨b, off, rfl, fun j y hy => ?_⟩
    have hj := lt_of_at hy
    rw [htl] at hj
    have h2 := hc j (by omega)
    rw [addr_add_none] at h2
    rw [h2]
    rw [List.getElem?_take_of_lt hj] at hy
    simp [List.getD, hy]

set_option maxRecDepth 100000 in
theorem openIS {v : Value} {d : DataW H} {p : List MemPlace} (hv : Value.okWide Tryz.prog W .any b0 28 v) (h : DataW.Trod enc Tryz.prog W base spare held 28 v d p) :
    ∃ (a : Option Addr) (xs : List Int) (c : Nat), v = .slice a xs.length c ∧ RdI W a xs ∧ xs.length ≤ maxLen := by
  obtain ⟨m, hm⟩ := h
  obtain ⟨_, _, _, rfl⟩ := okWide_slice Tryz.underlying28 hv
  obtain ⟨a, xs, c, hv, hR, _, hl⟩ := openI_trod hm
  exact ⟨a, xs, c, hv, hR, hl⟩

end

def balOk (sz : Int) (x : Int × Int) : Bool := inR x.1 0 (topOf sz) && inR x.2 1 1000
def appOk (sz : Int) (bs : List (Int × Int)) : Bool := inR sz 1 6 && (decide (bs.length ≤ 12) && bs.all (balOk sz))

open Go.RowKit

def bitAt (s : Int) (a : Nat) : Bool := s.toNat.testBit a
def cntTo (s : Int) (k : Nat) : Int := ((List.range k).countP (bitAt s) : Nat)
set_option maxRecDepth 100000 in
theorem cnt_hit {s : Int} {k : Nat} (h : bitAt s k = true) : cntTo s (k + 1) = cntTo s k + 1 := by
  simp [cntTo, List.range_succ, List.countP_append, h]
set_option maxRecDepth 100000 in
theorem cnt_miss {s : Int} {k : Nat} (h : bitAt s k = false) : cntTo s (k + 1) = cntTo s k := by
  simp [cntTo, List.range_succ, List.countP_append, h]
set_option maxRecDepth 100000 in
theorem cnt_bd (s : Int) (k : Nat) : 0 ≤ cntTo s k ∧ cntTo s k ≤ k := by
  unfold cntTo
  have h := List.countP_le_length (p := bitAt s) (l := List.range k)
  rw [List.length_range] at h
  omega
set_option maxRecDepth 100000 in
theorem sets {p : Int → Prop} (h : ∀ n : Nat, n < 64 → p (n : Int)) {s : Int} (h0 : 0 ≤ s) (h63 : s ≤ 63) : p s := by
  have := h s.toNat (by omega)
  rwa [Int.toNat_of_nonneg h0] at this
set_option maxRecDepth 100000 in
theorem pow_wrap {k : Nat} (h : k < 6) : wrap64 (2 ^ k) = 2 ^ k := by
  have : k = 0 ∨ k = 1 ∨ k = 2 ∨ k = 3 ∨ k = 4 ∨ k = 5 := by omega
  rcases this with rfl | rfl | rfl | rfl | rfl | rfl <;> exact IntWalk.wrap64_in _ (by decide)
set_option maxRecDepth 100000 in
theorem bit_spec {s : Int} (h0 : 0 ≤ s) (h63 : s ≤ 63) {k : Nat} (h : k < 6) : (bits BinOp.and IntKind.i64 s (2 ^ k) != 0) = bitAt s k := by
  refine sets (p := fun s => (bits BinOp.and IntKind.i64 s (2 ^ k) != 0) = bitAt s k) (fun n hn => ?_) h0 h63
  have : k = 0 ∨ k = 1 ∨ k = 2 ∨ k = 3 ∨ k = 4 ∨ k = 5 := by omega
  rcases this with rfl | rfl | rfl | rfl | rfl | rfl <;> revert n <;> decide

set_option maxRecDepth 100000 in
theorem and_u64 (a b : Int) : bits BinOp.and IntKind.u64 a b = IntKind.u64.wrap ((BitVec.ofInt 64 a &&& BitVec.ofInt 64 b).toNat : Int) := rfl
set_option maxRecDepth 100000 in
theorem and_i64 (a b : Int) : bits BinOp.and IntKind.i64 a b = IntKind.i64.wrap ((BitVec.ofInt 64 a &&& BitVec.ofInt 64 b).toNat : Int) := rfl

/-- The common members of two sets. -/
def landI (a b : Int) : Int := bits BinOp.and IntKind.i64 a b
set_option maxRecDepth 100000 in
theorem landI_comm (a b : Int) : landI a b = landI b a := by
  show IntKind.i64.wrap _ = IntKind.i64.wrap _
  rw [BitVec.and_comm]
set_option maxRecDepth 100000 in
theorem ofInt_i64 (a : Nat) (ha : a < 9223372036854775808) : (BitVec.ofInt 64 (a : Int)).toNat = a := by
  rw [BitVec.ofInt_natCast, BitVec.toNat_ofNat]; exact Nat.mod_eq_of_lt (by omega)
set_option maxRecDepth 100000 in
theorem landI_nat (a b : Nat) (ha : a < 64) (hb : b < 64) : landI (a : Int) (b : Int) = ((a &&& b : Nat) : Int) := by
  have hx : a &&& b < 2 ^ 6 := Nat.and_lt_two_pow _ (by omega)
  show IntKind.i64.wrap ((BitVec.ofInt 64 (a : Int) &&& BitVec.ofInt 64 (b : Int)).toNat : Int) = _
  rw [BitVec.toNat_and, ofInt_i64 a (by omega), ofInt_i64 b (by omega), IntKind.wrap_i64]
  omega
set_option maxRecDepth 100000 in
theorem landI_bd {a b : Int} (a0 : 0 ≤ a) (a1 : a ≤ 63) (b0 : 0 ≤ b) (b1 : b ≤ 63) : 0 ≤ landI a b ∧ landI a b ≤ 63 := by
  have h := landI_nat a.toNat b.toNat (by omega) (by omega)
  rw [Int.toNat_of_nonneg a0, Int.toNat_of_nonneg b0] at h
  have hx : a.toNat &&& b.toNat < 2 ^ 6 := Nat.and_lt_two_pow _ (by omega)
  rw [h]; omega
set_option maxRecDepth 100000 in
theorem top_le {sz : Int} (h1 : 1 ≤ sz) (h6 : sz ≤ 6) : topOf sz ≤ 63 := by
  have : sz = 1 ∨ sz = 2 ∨ sz = 3 ∨ sz = 4 ∨ sz = 5 ∨ sz = 6 := by omega
  rcases this with rfl | rfl | rfl | rfl | rfl | rfl <;> decide
set_option maxRecDepth 100000 in
theorem ok_size {sz : Int} {bs : List (Int × Int)} (h : appOk sz bs = true) : 1 ≤ sz ∧ sz ≤ 6 := by
  simp only [appOk, Bool.and_eq_true] at h; exact inR_iff.1 h.1
set_option maxRecDepth 100000 in
theorem ok_len {sz : Int} {bs : List (Int × Int)} (h : appOk sz bs = true) : bs.length ≤ 12 := by
  simp only [appOk, Bool.and_eq_true, decide_eq_true_eq] at h; exact h.2.1
set_option maxRecDepth 100000 in
theorem ok_at {sz : Int} {bs : List (Int × Int)} (h : appOk sz bs = true) {x : Int × Int} (hx : x ∈ bs) : 0 ≤ x.1 ∧ x.1 ≤ topOf sz ∧ x.1 ≤ 63 ∧ 1 ≤ x.2 ∧ x.2 ≤ 1000 := by
  obtain ⟨h1, h6⟩ := ok_size h
  have ht := top_le h1 h6
  simp only [appOk, Bool.and_eq_true, decide_eq_true_eq] at h
  have h2 := List.all_eq_true.1 h.2.2 x hx
  simp only [balOk, Bool.and_eq_true] at h2
  have h3 := inR_iff.1 h2.1
  have h4 := inR_iff.1 h2.2
  omega

def seatsFor (sz : Int) (bs : List (Int × Int)) (set ballot : Int) : Int :=
  if appOk sz bs && inR set 0 (topOf sz) && inR ballot 0 (bs.length - 1) then cntTo (landI (bs.getD ballot.toNat (0, 0)).1 set) 6 else -1

def szN (n left : Int) : Int := if left - n < 0 then -1 else left - n

set_option maxRecDepth 100000 in
theorem szN_bd {n left : Int} (h0 : 0 ≤ left) (hn : 0 ≤ n) : (szN n left < 0 ∧ szN n left = -1) ∨ (0 ≤ szN n left ∧ szN n left ≤ left ∧ n ≤ left ∧ szN n left = left - n) := by
  unfold szN; split <;> omega

def SzOk (left : Int) (vs : List Vt) (r : Int) : Prop := r < 0 ∨ (r ≤ left ∧ vs.length ≤ left ∧ ∀ x ∈ vs, (x.1.length : Int) ≤ left)

set_option maxRecDepth 100000 in
theorem BlkF.rdI {w : World} {g n : Nat} {f : Nat → Value} {xs : List Int} (hB : BlkF w g n f) (hn : xs.length ≤ n) (hf : ∀ j x, xs[j]? = some x → f j = .int .i64 x) : RdI w (some ⟨g, 0, none⟩) xs := fun _ => by
  refine ⟨g, 0, rfl, fun j x hx => ?_⟩
  have := lt_of_at hx
  rw [Nat.zero_add, hB.cell _ (by omega), hf j x hx]

/-- The slice a is the call's own copy of the votes: its blocks lie from lo on and below hi, and may be written. -/
def OwnV (w : World) (lo hi : Nat) (g : Nat) (vs : List Vt) (k : Nat) : Prop := ∃ (f : Nat → Value) (h : Nat → Nat), lo ≤ g ∧ g < hi ∧ BlkF w g (vs.length * 2) f ∧
  ∀ j x, j < k → vs[j]? = some x → f (j * 2) = .slice (some ⟨h j, 0, none⟩) x.1.length x.1.length ∧ f (j * 2 + 1) = .int .i64 x.2 ∧ g < h j ∧ h j < hi ∧
    (∀ i, i < j → h i < h j) ∧ ∃ fi, BlkF w (h j) x.1.length fi ∧ ∀ i y, x.1[i]? = some y → fi i = .int .i64 y
set_option maxRecDepth 100000 in
theorem OwnV.ext {w w' : World} {lo hi g k : Nat} {vs : List Vt} (h : OwnV w lo hi g vs k) (hw : Ext w w') : OwnV w' lo hi g vs k := by
  obtain ⟨f, h, h1, h2, hB, hj⟩ := h
  refine ⟨f, h, h1, h2, hB.ext hw, fun j x hk hx => ?_⟩
  obtain ⟨a0, a1, a2, a3, a4, fi, a5, a6⟩ := hj j x hk hx
  exact ⟨a0, a1, a2, a3, a4, fi, a5.ext hw, a6⟩
set_option maxRecDepth 100000 in
theorem OwnV.rd {w : World} {lo hi g : Nat} {vs : List Vt} (h : OwnV w lo hi g vs vs.length) : RdV w (some ⟨g, 0, none⟩) vs := fun _ => by
  obtain ⟨f, h, h1, h2, hB, hj⟩ := h
  refine ⟨g, 0, rfl, fun j x hx => ?_⟩
  have hl := lt_of_at hx
  obtain ⟨a0, a1, a2, a3, a4, fi, a5, a6⟩ := hj j x hl hx
  refine ⟨_, _, ?_, ?_, Nat.le_refl _, a5.rdI (Nat.le_refl _) a6⟩
  · rw [Nat.zero_add, hB.cell _ (by omega), a0]
  · rw [Nat.zero_add, hB.cell _ (by omega), a1]
set_option maxRecDepth 100000 in
/-- One more vote has been copied into its place. -/
theorem OwnV.put {w : World} {lo hi hi' g k : Nat} {vs : List Vt} {x : Vt} (h : OwnV w lo hi g vs k) (hx : vs[k]? = some x) (gk : Nat) (fk : Nat → Value) (hg : hi ≤ gk) (hg' : gk < hi') (hB : BlkF w gk x.1.length fk)
    (hf : ∀ i y, x.1[i]? = some y → fk i = .int .i64 y) :
    OwnV ((w.setCell ⟨g, k * 2, none⟩ (.slice (some ⟨gk, 0, none⟩) x.1.length x.1.length)).setCell ⟨g, k * 2 + 1, none⟩ (.int .i64 x.2)) lo hi' g vs (k + 1) := by
  obtain ⟨f, h, h1, h2, hB0, hj⟩ := h
  have hl := lt_of_at hx
  obtain ⟨h', hh'⟩ : ∃ h' : Nat → Nat, h' = fun j => if j = k then gk else h j := ⟨_, rfl⟩
  have e1 : h' k = gk := by rw [hh']; simp
  have e2 : ∀ j, j ≠ k → h' j = h j := fun j hj => by rw [hh']; simp [hj]
  refine ⟨_, h', h1, by omega, (hB0.set (k * 2) (by omega) _).set (k * 2 + 1) (by omega) _, fun j y hk hy => ?_⟩
  by_cases e : j = k
  · subst e
    rw [hx] at hy
    injection hy with hy
    subst hy
    rw [e1]
    refine ⟨?_, ?_, by omega, hg', ?_, fk, (hB.far (by simp; omega) _).far (by simp; omega) _, hf⟩
    · rw [if_neg (by omega), if_pos rfl]
    · rw [if_pos rfl]
    · intro i hi
      rw [e2 i (by omega)]
      obtain ⟨z, hz⟩ := at_of_lt (xs := vs) (k := i) (by omega)
      have := (hj i z hi hz).2.2.2.1
      omega
  · obtain ⟨a0, a1, a2, a3, a4, fi, a5, a6⟩ := hj j y (by omega) hy
    rw [e2 j e]
    refine ⟨?_, ?_, a2, by omega, ?_, fi, (a5.far (by simp; omega) _).far (by simp; omega) _, a6⟩
    · rw [if_neg (by omega), if_neg (by omega)]; exact a0
    · rw [if_neg (by omega), if_neg (by omega)]; exact a1
    · intro i hi
      rw [e2 i (by omega)]
      exact a4 i hi

set_option maxRecDepth 100000 in
theorem info_v : (Tryz.prog.info? 30).map (fun i => (i.zero, i.size, i.bytes)) = some (some (.agg #[.slice none 0 0, .int .i64 0]), 2, 32) := by kernel_rfl

def WrI (w : World) (B : Nat) (v : Value) (xs : List Int) : Prop := ∃ a c, v = .slice a xs.length c ∧ xs.length ≤ c ∧
  (xs ≠ [] → ∃ g f, a = some ⟨g, 0, none⟩ ∧ B ≤ g ∧ BlkF w g xs.length f ∧ ∀ j x, xs[j]? = some x → f j = .int .i64 x)
set_option maxRecDepth 100000 in
theorem WrI.wr {w : World} {B : Nat} {v : Value} {xs : List Int} (h : WrI w B v xs) : WrI w B v xs := h
set_option maxRecDepth 100000 in
theorem OwnI.wr {w : World} {B : Nat} {v : Value} {xs : List Int} (h : OwnI w B v xs) : WrI w B v xs := by
  obtain ⟨a, c, hv, hc, _, hR, ho⟩ := h.val
  refine ⟨a, c, hv, hc, fun hne => ?_⟩
  obtain ⟨g, ha, hg, hB⟩ := ho hne
  exact ⟨g, _, ha, hg, hB, fun j x hx => by simp [List.getD, hx]⟩
set_option maxRecDepth 100000 in
theorem WrI.fr {w : World} {B : Nat} {v : Value} {xs : List Int} (h : WrI w B v xs) : FrI w B v xs := by
  obtain ⟨a, c, hv, hc, ho⟩ := h
  by_cases hne : xs = []
  · subst hne; subst hv; exact FrI.nil _ _ _ _
  · obtain ⟨g, f, rfl, hg, hB, hf⟩ := ho hne
    rw [hv]
    exact hB.frI rfl hf hg hc
set_option maxRecDepth 100000 in
theorem WrI.ext {w w' : World} {B : Nat} {v : Value} {xs : List Int} (h : WrI w B v xs) (hw : Ext w w') : WrI w' B v xs := by
  obtain ⟨a, c, hv, hc, ho⟩ := h
  refine ⟨a, c, hv, hc, fun hne => ?_⟩
  obtain ⟨g, f, ha, hg, hB, hf⟩ := ho hne
  exact ⟨g, f, ha, hg, hB.ext hw, hf⟩
set_option maxRecDepth 100000 in
theorem WrI.base {w : World} {B B' : Nat} {v : Value} {xs : List Int} (h : WrI w B v xs) (hb : B' ≤ B) : WrI w B' v xs := by
  obtain ⟨a, c, hv, hc, ho⟩ := h
  refine ⟨a, c, hv, hc, fun hne => ?_⟩
  obtain ⟨g, f, ha, hg, hB, hf⟩ := ho hne
  exact ⟨g, f, ha, by omega, hB, hf⟩
set_option maxRecDepth 100000 in
theorem WrI.rng {w w' : World} {B lo hi : Nat} {v : Value} {xs : List Int} (h : WrI w B v xs) (hg : hi ≤ B) (hw : Rng lo hi w w') : WrI w' B v xs := by
  obtain ⟨a, c, hv, hc, ho⟩ := h
  refine ⟨a, c, hv, hc, fun hne => ?_⟩
  obtain ⟨g, f, ha, hg', hB, hf⟩ := ho hne
  exact ⟨g, f, ha, hg', ⟨Nat.lt_of_lt_of_le hB.lt hw.size, fun o => (World.frozen?_of_block (w := w) (hw.block g hB.lt (by omega))).trans (hB.fr o), fun o ho => hw.keep (.inr (show hi ≤ g by omega)) (hB.cell o ho)⟩, hf⟩
set_option maxRecDepth 100000 in
theorem WrI.nil (w : World) (B : Nat) (a : Option Addr) (c : Nat) : WrI w B (.slice a 0 c) [] := ⟨a, c, rfl, Nat.zero_le _, fun h => absurd rfl h⟩
set_option maxRecDepth 100000 in
theorem BlkF.wrI {w : World} {g n B c : Nat} {f : Nat → Value} {xs : List Int} (hB : BlkF w g n f) (hn : xs.length = n) (hf : ∀ (j : Nat) (x : Int), xs[j]? = some x → f j = .int .i64 x) (hg : B ≤ g) (hc : n ≤ c) : WrI w B (.slice (some ⟨g, 0, none⟩) n c) xs := by
  subst hn
  exact ⟨_, _, rfl, hc, fun _ => ⟨g, f, rfl, hg, hB, hf⟩⟩

end Go.Proofs.YtfmeklgdaabooaaGreatDoor
