/- Which approvals are valid: both packages' tests answer as one plain function. The library's searches over approvals, with a function value that only adds memory. The program's own test of approvals. How many bits a small number has: the library's function at each of 64 numbers. Counting the members of a set. SeatsFor of both packages. -/
import Derived.Test.YthiojkpoeejkaaaCa2
namespace Go.Proofs.Ythiojkpoeejkaaa
open Go.RowKit

def balOk (sz : Int) (x : Int × Int) : Bool := inR x.1 0 (topOf sz) && inR x.2 1 1000
def appOk (sz : Int) (bs : List (Int × Int)) : Bool := inR sz 1 6 && (decide (bs.length ≤ 12) && bs.all (balOk sz))

set_option maxRecDepth 100000 in
set_option maxHeartbeats 1000000 in
theorem indexFuncP (K : Nat) (fst cap : Array Value) (p : Int × Int → Bool) (w : World) (a : Option Addr) (c : Nat) (bs : List (Int × Int)) (hR : RdP w a bs) (hl : bs.length ≤ 2000000) (hK : Enters Try.prog K)
    (hf : ∀ (x : Int × Int) (w' : World), x ∈ bs → Ext w w' → Calls Try.prog K (fst.push (.agg #[.int .i64 x.1, .int .i64 x.2]) ++ cap) w' fun e w'' => e = .returned (.bool (p x)) ∧ Ext w' w'') :
    Calls Try.prog 180 #[.slice a bs.length c, .func (.func K) fst cap] w fun e w' => e = .returned (.int .i64 (findI p bs)) ∧ Ext w w' := by
  unfold Enters at hK
  have HF := hide hf
  clear hf
  go_enter Try.func180, Try.ntmps180
  go_wp2_with fail
  go_loopw [5, 8] (fun _ i wr => ∃ k : Nat, k ≤ bs.length ∧ i = .int .i64 k ∧ (bs.take k).all (fun x => !p x) = true ∧ Ext w wr) (fun _ i _ => bs.length - (intOf i).toNat)
  case atStart => exact ⟨0, Nat.zero_le _, rfl, rfl, Ext.refl _⟩
  case round =>
    obtain ⟨k, hk, rfl, hall, hwr⟩ := hrel
    by_cases hlt : k < bs.length
    · obtain ⟨x, hx⟩ := at_of_lt hlt
      obtain ⟨b, off, rfl, c0, c1⟩ := (hR.ext hwr).at_ hx
      cases hp : p x
      all_goals
        go_wp2_with fail
        refine (HF.out x wr (List.mem_of_getElem? hx) hwr).mono ?_
        rintro e w1 ⟨rfl, hw1⟩
        go_wp2
      · exact ⟨⟨k + 1, by omega, by go_num, (all_take hx hall).trans (by simp [hp]), hwr.trans hw1⟩, by simp [intOf]; omega⟩
      · go_ret
        exact ⟨ret_int (findI_some hx hall hp).symm, hwr.trans hw1⟩
    · go_wp2
      go_ret
      exact ⟨ret_int (findI_none (all_whole (by omega) hall)).symm, hwr⟩

set_option maxRecDepth 100000 in
set_option maxHeartbeats 1000000 in
theorem containsFuncP (K : Nat) (fst cap : Array Value) (p : Int × Int → Bool) (w : World) (a : Option Addr) (c : Nat) (bs : List (Int × Int)) (hR : RdP w a bs) (hl : bs.length ≤ 2000000) (hK : Enters Try.prog K)
    (hf : ∀ (x : Int × Int) (w' : World), x ∈ bs → Ext w w' → Calls Try.prog K (fst.push (.agg #[.int .i64 x.1, .int .i64 x.2]) ++ cap) w' fun e w'' => e = .returned (.bool (p x)) ∧ Ext w' w'') :
    Calls Try.prog 95 #[.slice a bs.length c, .func (.func K) fst cap] w fun e w' => e = .returned (.bool (bs.any p)) ∧ Ext w w' := by
  have H := hide (indexFuncP K fst cap p w a c bs hR hl hK hf)
  clear hf
  go_enter Try.func95, Try.ntmps95
  go_wp2_with fail
  refine H.out.mono ?_
  rintro e w1 ⟨rfl, hw1⟩
  go_wp2
  go_ret
  exact ⟨ret_bool (findI_nonneg p bs), hw1⟩

set_option maxRecDepth 100000 in
set_option maxHeartbeats 1000000 in
theorem has_impl (w : World) (sz x : Int) (v : Value) (hlo : 1 ≤ sz) (hhi : sz ≤ 6) :
    Calls Try.prog 97 #[.agg #[.int .i64 sz, v], .int .i64 x] w fun e w' => e = .returned (.bool (inR x 0 (topOf sz))) ∧ Ext w w' := by
  have htop := top_wrap64 hlo hhi
  go_enter Try.func97, Try.ntmps97
  go_wp2_with (go_at_call 94; refine (in_impl _ _ _ _).mono ?_; rintro e w1 ⟨rfl, hw1⟩; have hc1 := hw1.cellS; have hf1 := hw1.frozenS)
  go_ret
  exact ⟨rfl, hw1.a⟩

set_option maxRecDepth 100000 in
set_option maxHeartbeats 1000000 in
theorem okOne_impl (w : World) (sz : Int) (v : Value) (b off : Nat) (x : Int × Int) (hlo : 1 ≤ sz) (hhi : sz ≤ 6)
    (h0 : w.cell? ⟨b, off, none⟩ = some (.int .i64 sz)) (h1 : w.cell? ⟨b, off + 1, none⟩ = some v) :
    Calls Try.prog 96 #[.agg #[.int .i64 x.1, .int .i64 x.2], .pointer (some ⟨b, off, none⟩)] w fun e w' => e = .returned (.bool (!balOk sz x)) ∧ Ext w w' := by
  cases g1 : inR x.1 0 (topOf sz)
  all_goals
    go_enter Try.func96, Try.ntmps96
    go_wp2_with (first | (go_at_call 97; refine (has_impl _ _ _ _ hlo hhi).mono ?_; rintro e w1 ⟨rfl, hw1⟩; have hc1 := hw1.cellS; have hf1 := hw1.frozenS) | (go_at_call 94; refine (in_impl _ _ _ _).mono ?_; rintro e w1 ⟨rfl, hw1⟩; have hc1 := hw1.cellS; have hf1 := hw1.frozenS))
    go_ret
  · exact ⟨ret_bool (by simp [balOk, g1]), hw1.a⟩
  · exact ⟨ret_bool (by simp [balOk, g1]), (by repeat (first | exact Ext.refl _ | assumption | refine Ext.alloc ?_ _ | refine Ext.drew ?_ | refine Ext.trans ?_ (by assumption)))⟩

set_option maxRecDepth 100000 in
set_option maxHeartbeats 1000000 in
theorem ok_impl (w : World) (sz : Int) (a : Option Addr) (c : Nat) (bs : List (Int × Int)) (hR : RdP w a bs) :
    Calls Try.prog 16 #[.agg #[.int .i64 sz, .slice a bs.length c]] w fun e w' => e = .returned (.bool (appOk sz bs)) ∧ Ext w w' := by
  cases h1 : inR sz 1 6
  · go_enter Try.func16, Try.ntmps16
    go_wp2_with (go_at_call 94; refine (in_impl _ _ _ _).mono ?_; rintro e w1 ⟨rfl, hw1⟩; have hc1 := hw1.cellS; have hf1 := hw1.frozenS)
    go_ret
    exact ⟨ret_bool (by simp [appOk, h1]), hw1.a⟩
  obtain ⟨hlo, hhi⟩ := inR_iff.1 h1
  by_cases hl : bs.length ≤ 12
  · have HC := hide (fun (w1 : World) (hw1 : Ext (w.alloc (.cells #[.int .i64 sz, .slice a bs.length c] 25)) w1) =>
      containsFuncP 96 #[] #[.pointer (some ⟨w.heap.size, 0, none⟩)] (fun x => !balOk sz x) w1 a c bs (hR.ext hw1.a) (by omega) (fun _ _ => Try.call96 _ _)
        (fun x w' _ hw' => okOne_impl w' sz _ _ 0 x hlo hhi (hw'.keep (hw1.keep (new0 w _ _ _))) (hw'.keep (hw1.keep (new1 w _ _ _ _)))))
    go_enter Try.func16, Try.ntmps16
    go_wp2_with (go_at_call 94; refine (in_impl _ _ _ _).mono ?_; rintro e w1 ⟨rfl, hw1⟩; have hc1 := hw1.cellS; have hf1 := hw1.frozenS)
    refine (HC.out _ hw1).mono ?_
    rintro e w2 ⟨rfl, hw2⟩
    go_wp2
    go_ret
    exact ⟨ret_bool (by simp [appOk, h1, hl, any_not]), hw1.a.trans hw2⟩
  · go_enter Try.func16, Try.ntmps16
    go_wp2_with (go_at_call 94; refine (in_impl _ _ _ _).mono ?_; rintro e w1 ⟨rfl, hw1⟩; have hc1 := hw1.cellS; have hf1 := hw1.frozenS)
    go_ret
    exact ⟨ret_bool (by simp [appOk, hl]), hw1.a⟩

def bitAt (s : Int) (a : Nat) : Bool := s.toNat.testBit a
def cntTo (s : Int) (k : Nat) : Int := ((List.range k).countP (bitAt s) : Nat)
set_option maxRecDepth 100000 in
theorem cnt_hit {s : Int} {k : Nat} (h : bitAt s k = true) : cntTo s (k + 1) = cntTo s k + 1 := by
  simp [cntTo, List.range_succ, List.countP_append, h]
set_option maxRecDepth 100000 in
theorem cnt_miss {s : Int} {k : Nat} (h : bitAt s k = false) : cntTo s (k + 1) = cntTo s k := by
  simp [cntTo, List.range_succ, List.countP_append, h]
set_option maxRecDepth 100000 in
theorem cnt_bd (s : Int) (k : Nat) : 0 ≤ cntTo s k ∧ cntTo s k ≤ k := by
  unfold cntTo
  have h := List.countP_le_length (p := bitAt s) (l := List.range k)
  rw [List.length_range] at h
  omega
set_option maxRecDepth 100000 in
theorem sets {p : Int → Prop} (h : ∀ n : Nat, n < 64 → p (n : Int)) {s : Int} (h0 : 0 ≤ s) (h63 : s ≤ 63) : p s := by
  have := h s.toNat (by omega)
  rwa [Int.toNat_of_nonneg h0] at this
set_option maxRecDepth 100000 in
theorem pow_wrap {k : Nat} (h : k < 6) : wrap64 (2 ^ k) = 2 ^ k := by
  have : k = 0 ∨ k = 1 ∨ k = 2 ∨ k = 3 ∨ k = 4 ∨ k = 5 := by omega
  rcases this with rfl | rfl | rfl | rfl | rfl | rfl <;> exact IntWalk.wrap64_in _ (by decide)
set_option maxRecDepth 100000 in
theorem bit_spec {s : Int} (h0 : 0 ≤ s) (h63 : s ≤ 63) {k : Nat} (h : k < 6) : (bits BinOp.and IntKind.i64 s (2 ^ k) != 0) = bitAt s k := by
  refine sets (p := fun s => (bits BinOp.and IntKind.i64 s (2 ^ k) != 0) = bitAt s k) (fun n hn => ?_) h0 h63
  have : k = 0 ∨ k = 1 ∨ k = 2 ∨ k = 3 ∨ k = 4 ∨ k = 5 := by omega
  rcases this with rfl | rfl | rfl | rfl | rfl | rfl <;> revert n <;> decide

set_option maxRecDepth 100000 in
theorem and_u64 (a b : Int) : bits BinOp.and IntKind.u64 a b = IntKind.u64.wrap ((BitVec.ofInt 64 a &&& BitVec.ofInt 64 b).toNat : Int) := rfl
set_option maxRecDepth 100000 in
theorem and_i64 (a b : Int) : bits BinOp.and IntKind.i64 a b = IntKind.i64.wrap ((BitVec.ofInt 64 a &&& BitVec.ofInt 64 b).toNat : Int) := rfl

set_option maxRecDepth 100000 in
set_option maxHeartbeats 0 in
theorem ones64 (n : Nat) (hn : n < 64) (w : World) :
    Calls Try.prog 185 #[.int .u64 (n : Int)] w fun e w' => e = .returned (.int .i64 (cntTo (n : Int) 6)) ∧ Ext w w' := by
  have hb := and_u64
  have hw := IntKind.wrap_u64
  have hb' := and_i64
  have hw' := IntKind.wrap_i64
  have hc : n = 0 ∨ n = 1 ∨ n = 2 ∨ n = 3 ∨ n = 4 ∨ n = 5 ∨ n = 6 ∨ n = 7 ∨ n = 8 ∨ n = 9 ∨ n = 10 ∨ n = 11 ∨ n = 12 ∨ n = 13 ∨ n = 14 ∨ n = 15 ∨ n = 16 ∨ n = 17 ∨ n = 18 ∨ n = 19 ∨ n = 20 ∨ n = 21 ∨ n = 22 ∨ n = 23 ∨ n = 24 ∨ n = 25 ∨ n = 26 ∨ n = 27 ∨ n = 28 ∨ n = 29 ∨ n = 30 ∨ n = 31 ∨ n = 32 ∨ n = 33 ∨ n = 34 ∨ n = 35 ∨ n = 36 ∨ n = 37 ∨ n = 38 ∨ n = 39 ∨ n = 40 ∨ n = 41 ∨ n = 42 ∨ n = 43 ∨ n = 44 ∨ n = 45 ∨ n = 46 ∨ n = 47 ∨ n = 48 ∨ n = 49 ∨ n = 50 ∨ n = 51 ∨ n = 52 ∨ n = 53 ∨ n = 54 ∨ n = 55 ∨ n = 56 ∨ n = 57 ∨ n = 58 ∨ n = 59 ∨ n = 60 ∨ n = 61 ∨ n = 62 ∨ n = 63 := by omega
  rcases hc with rfl | rfl | rfl | rfl | rfl | rfl | rfl | rfl | rfl | rfl | rfl | rfl | rfl | rfl | rfl | rfl | rfl | rfl | rfl | rfl | rfl | rfl | rfl | rfl | rfl | rfl | rfl | rfl | rfl | rfl | rfl | rfl | rfl | rfl | rfl | rfl | rfl | rfl | rfl | rfl | rfl | rfl | rfl | rfl | rfl | rfl | rfl | rfl | rfl | rfl | rfl | rfl | rfl | rfl | rfl | rfl | rfl | rfl | rfl | rfl | rfl | rfl | rfl | rfl
  all_goals
    go_enter Try.func185, Try.ntmps185
    go_wp2
    go_ret
    exact ⟨ret_int (by decide), Ext.refl _⟩

set_option maxRecDepth 100000 in
set_option maxHeartbeats 1000000 in
theorem onesW (n : Nat) (hn : n < 64) (w : World) :
    Calls Try.prog 106 #[.int .u64 (n : Int)] w fun e w' => e = .returned (.int .i64 (cntTo (n : Int) 6)) ∧ Ext w w' := by
  go_enter Try.func106, Try.ntmps106
  go_wp2_with (go_at_call 185; refine (ones64 n hn _).mono ?_; rintro e w1 ⟨rfl, hw1⟩; have hc1 := hw1.cellS; have hf1 := hw1.frozenS)
  go_ret
  exact ⟨rfl, hw1⟩

set_option maxRecDepth 100000 in
set_option maxHeartbeats 1000000 in
theorem size_impl (w : World) (s : Int) (h0 : 0 ≤ s) (h63 : s ≤ 63) :
    Calls Try.prog 23 #[.int .i64 s] w fun e w' => e = .returned (.int .i64 (cntTo s 6)) ∧ Ext w w' := by
  refine sets (p := fun s => Calls Try.prog 23 #[.int .i64 s] w fun e w' => e = .returned (.int .i64 (cntTo s 6)) ∧ Ext w w') (fun n hn => ?_) h0 h63
  have hin : inR (n : Int) 0 63 = true := inR_iff.2 (by omega)
  have hcv : IntKind.u64.wrap (n : Int) = (n : Int) := by rw [IntKind.wrap_u64]; omega
  go_enter Try.func23, Try.ntmps23
  go_wp2_with (first | (go_at_call 94; refine (in_impl _ _ _ _).mono ?_; rintro e w1 ⟨rfl, hw1⟩; have hc1 := hw1.cellS; have hf1 := hw1.frozenS) | (go_at_call 106; refine (onesW n hn _).mono ?_; rintro e w1 ⟨rfl, hw1⟩; have hc1 := hw1.cellS; have hf1 := hw1.frozenS))
  go_ret
  exact ⟨rfl, (by repeat (first | exact Ext.refl _ | assumption | refine Ext.alloc ?_ _ | refine Ext.drew ?_ | refine Ext.trans ?_ (by assumption)))⟩

/-- The common members of two sets. -/
def landI (a b : Int) : Int := bits BinOp.and IntKind.i64 a b
set_option maxRecDepth 100000 in
theorem landI_comm (a b : Int) : landI a b = landI b a := by
  show IntKind.i64.wrap _ = IntKind.i64.wrap _
  rw [BitVec.and_comm]
set_option maxRecDepth 100000 in
theorem ofInt_i64 (a : Nat) (ha : a < 9223372036854775808) : (BitVec.ofInt 64 (a : Int)).toNat = a := by
  rw [BitVec.ofInt_natCast, BitVec.toNat_ofNat]; exact Nat.mod_eq_of_lt (by omega)
set_option maxRecDepth 100000 in
theorem landI_nat (a b : Nat) (ha : a < 64) (hb : b < 64) : landI (a : Int) (b : Int) = ((a &&& b : Nat) : Int) := by
  have hx : a &&& b < 2 ^ 6 := Nat.and_lt_two_pow _ (by omega)
  show IntKind.i64.wrap ((BitVec.ofInt 64 (a : Int) &&& BitVec.ofInt 64 (b : Int)).toNat : Int) = _
  rw [BitVec.toNat_and, ofInt_i64 a (by omega), ofInt_i64 b (by omega), IntKind.wrap_i64]
  omega
set_option maxRecDepth 100000 in
theorem landI_bd {a b : Int} (a0 : 0 ≤ a) (a1 : a ≤ 63) (b0 : 0 ≤ b) (b1 : b ≤ 63) : 0 ≤ landI a b ∧ landI a b ≤ 63 := by
  have h := landI_nat a.toNat b.toNat (by omega) (by omega)
  rw [Int.toNat_of_nonneg a0, Int.toNat_of_nonneg b0] at h
  have hx : a.toNat &&& b.toNat < 2 ^ 6 := Nat.and_lt_two_pow _ (by omega)
  rw [h]; omega
set_option maxRecDepth 100000 in
theorem top_le {sz : Int} (h1 : 1 ≤ sz) (h6 : sz ≤ 6) : topOf sz ≤ 63 := by
  have : sz = 1 ∨ sz = 2 ∨ sz = 3 ∨ sz = 4 ∨ sz = 5 ∨ sz = 6 := by omega
  rcases this with rfl | rfl | rfl | rfl | rfl | rfl <;> decide
set_option maxRecDepth 100000 in
theorem ok_size {sz : Int} {bs : List (Int × Int)} (h : appOk sz bs = true) : 1 ≤ sz ∧ sz ≤ 6 := by
  simp only [appOk, Bool.and_eq_true] at h; exact inR_iff.1 h.1
set_option maxRecDepth 100000 in
theorem ok_len {sz : Int} {bs : List (Int × Int)} (h : appOk sz bs = true) : bs.length ≤ 12 := by
  simp only [appOk, Bool.and_eq_true, decide_eq_true_eq] at h; exact h.2.1
set_option maxRecDepth 100000 in
theorem ok_at {sz : Int} {bs : List (Int × Int)} (h : appOk sz bs = true) {x : Int × Int} (hx : x ∈ bs) : 0 ≤ x.1 ∧ x.1 ≤ topOf sz ∧ x.1 ≤ 63 ∧ 1 ≤ x.2 ∧ x.2 ≤ 1000 := by
  obtain ⟨h1, h6⟩ := ok_size h
  have ht := top_le h1 h6
  simp only [appOk, Bool.and_eq_true, decide_eq_true_eq] at h
  have h2 := List.all_eq_true.1 h.2.2 x hx
  simp only [balOk, Bool.and_eq_true] at h2
  have h3 := inR_iff.1 h2.1
  have h4 := inR_iff.1 h2.2
  omega

def seatsFor (sz : Int) (bs : List (Int × Int)) (set ballot : Int) : Int :=
  if appOk sz bs && inR set 0 (topOf sz) && inR ballot 0 (bs.length - 1) then cntTo (landI (bs.getD ballot.toNat (0, 0)).1 set) 6 else -1

end Go.Proofs.Ythiojkpoeejkaaa
