/- Both parts of a profile have the same winner and the whole has another one, of the program and of the spec. Which approvals are valid: both packages' tests answer as one plain function. The library's searches over approvals, with a function value that only adds memory. The program's own test of approvals. How many bits a small number has: the library's function at each of 64 numbers. Counting the members of a set. SeatsFor of both packages. The source of numbers that a code is. What the statements' reading of bytes says of memory. -/
import Derived.Test.YtilcdnkkabmbfaaGreatCk20
import Derived.Test.YtilcdnkkabmbfaaGreatCk19
import Derived.Test.YtilcdnkkabmbfaaGreatCk0
import Derived.Test.YtilcdnkkabmbfaaGreatCk1
import Derived.Test.YtilcdnkkabmbfaaGreatCk5
namespace Go.Proofs.YtilcdnkkabmbfaaGreat
open Go.RowKit

set_option maxRecDepth 100000 in
set_option maxHeartbeats 4000000 in
theorem spl_impl (w : World) (rule sz : Int) (a : Option Addr) (c : Nat) (vs : List Vt) (k : Int) (hc : vs.length ≤ c) (hR : RdV w a vs) :
    Calls Tryz.prog 24 #[.int .i64 rule, .agg #[.int .i64 sz, .slice a vs.length c], .int .i64 k] w fun e w' => e = .returned (.bool (splO rule sz vs k)) ∧ Ext w w' := by
  have q0 := new0 w (.int .i64 sz) [.slice a vs.length c] 29
  have q1 := new1 w (.int .i64 sz) (.slice a vs.length c) [] 29
  by_cases h1 : winB rule sz vs < 0
  · have HF : Hid (splO rule sz vs k = false) := hide (by unfold splO; rw [decide_eq_false (by omega)]; rfl)
    go_enter Tryz.func24, Tryz.ntmps24
    go_wp2_with (go_at_call 18; refine (winb_impl _ _ _ _ _ _ (hR.ext (by repeat (first | exact Ext.refl _ | assumption | refine Ext.alloc ?_ _ | refine Ext.drew ?_ | refine Ext.trans ?_ (by assumption))))).mono ?_; rintro e w1 ⟨rfl, hw1⟩; have q0 := Ext.keep (w' := w1) (by repeat (first | exact Ext.refl _ | assumption | refine Ext.alloc ?_ _ | refine Ext.drew ?_ | refine Ext.trans ?_ (by assumption))) q0; have q1 := Ext.keep (w' := w1) (by repeat (first | exact Ext.refl _ | assumption | refine Ext.alloc ?_ _ | refine Ext.drew ?_ | refine Ext.trans ?_ (by assumption))) q1)
    go_ret
    exact ⟨ret_bool HF.out.symm, (by repeat (first | exact Ext.refl _ | assumption | refine Ext.alloc ?_ _ | refine Ext.drew ?_ | refine Ext.trans ?_ (by assumption)))⟩
  obtain ⟨h0, _⟩ := winB_pos (rule := rule) (sz := sz) (vs := vs) (by omega)
  have hvl := (prof_small h0).1
  clear h0
  have y0 : wrap64 ((vs.length : Int) - 1) = (vs.length : Int) - 1 := IntWalk.wrap64_in _ (by omega)
  have y1 : IntKind.i64.wrap ((vs.length : Int) - 1) = (vs.length : Int) - 1 := IntWalk.i64_in _ (by omega)
  cases h2 : inR k 1 ((vs.length : Int) - 1)
  · have HF : Hid (splO rule sz vs k = false) := hide (by unfold splO; rw [h2]; simp)
    go_enter Tryz.func24, Tryz.ntmps24
    go_wp2_with (first | (go_at_call 18; refine (winb_impl _ _ _ _ _ _ (hR.ext (by repeat (first | exact Ext.refl _ | assumption | refine Ext.alloc ?_ _ | refine Ext.drew ?_ | refine Ext.trans ?_ (by assumption))))).mono ?_; rintro e w1 ⟨rfl, hw1⟩; have q0 := Ext.keep (w' := w1) (by repeat (first | exact Ext.refl _ | assumption | refine Ext.alloc ?_ _ | refine Ext.drew ?_ | refine Ext.trans ?_ (by assumption))) q0; have q1 := Ext.keep (w' := w1) (by repeat (first | exact Ext.refl _ | assumption | refine Ext.alloc ?_ _ | refine Ext.drew ?_ | refine Ext.trans ?_ (by assumption))) q1) | (go_at_call 63; refine (in_impl _ _ _ _).mono ?_; rintro e w1 ⟨rfl, hw1⟩; have q0 := Ext.keep (w' := w1) (by repeat (first | exact Ext.refl _ | assumption | refine Ext.alloc ?_ _ | refine Ext.drew ?_ | refine Ext.trans ?_ (by assumption))) q0; have q1 := Ext.keep (w' := w1) (by repeat (first | exact Ext.refl _ | assumption | refine Ext.alloc ?_ _ | refine Ext.drew ?_ | refine Ext.trans ?_ (by assumption))) q1))
    go_ret
    exact ⟨ret_bool HF.out.symm, (by repeat (first | exact Ext.refl _ | assumption | refine Ext.alloc ?_ _ | refine Ext.drew ?_ | refine Ext.trans ?_ (by assumption)))⟩
  obtain ⟨k1, k2⟩ := inR_iff.1 h2
  obtain ⟨m, rfl⟩ : ∃ m : Nat, k = m := ⟨k.toNat, by omega⟩
  obtain ⟨x, hx⟩ := at_of_lt (xs := vs) (k := 0) (by omega)
  obtain ⟨b, off, _, _, rfl, _⟩ := hR.at_ hx
  have hRt := hR.take m
  have hRd := hR.drop (n := off + m * 2) m c hc rfl
  have lt : (vs.take m).length = m := by rw [List.length_take]; omega
  have ld : (vs.drop m).length = vs.length - m := List.length_drop
  have HT : Hid (∀ w', Ext w w' → Calls Tryz.prog 18 #[.int .i64 rule, .agg #[.int .i64 sz, .slice (some ⟨b, off, none⟩) m c]] w' fun e w'' => e = .returned (.int .i64 (winB rule sz (vs.take m))) ∧ Ext w' w'') := fun w' hw' => by
    have h := winb_impl w' rule sz _ c (vs.take m) (hRt.ext hw')
    rw [lt] at h
    exact h
  have HD : Hid (∀ w', Ext w w' → Calls Tryz.prog 18 #[.int .i64 rule, .agg #[.int .i64 sz, .slice (if c = m then some ⟨b, off, none⟩ else some ⟨b, off + m * 2, none⟩) (vs.length - m) (c - m)]] w' fun e w'' => e = .returned (.int .i64 (winB rule sz (vs.drop m))) ∧ Ext w' w'') := fun w' hw' => by
    have h := winb_impl w' rule sz _ (c - m) (vs.drop m) (hRd.ext hw')
    rw [ld] at h
    exact h
  have HS : Hid (splO rule sz vs m = ((winB rule sz (vs.take m) == winB rule sz (vs.drop m)) && !(winB rule sz (vs.take m) == winB rule sz vs))) := hide (by
    unfold splO
    rw [h2, decide_eq_true (show 0 ≤ winB rule sz vs by omega), Int.toNat_natCast]; simp)
  have i1 : m ≤ c := by omega
  have i2 : m ≤ vs.length := by omega
  have i3 : (m : Int) ≤ (c : Int) := by omega
  have i4 : (m : Int) ≤ (vs.length : Int) := by omega
  generalize hA : (if c = m then (some ⟨b, off, none⟩ : Option Addr) else some ⟨b, off + m * 2, none⟩) = A at HD
  clear hx hRt hRd lt ld k1 k2
  have HW : Hid (∀ w', Ext w w' → Calls Tryz.prog 18 #[.int .i64 rule, .agg #[.int .i64 sz, .slice (some ⟨b, off, none⟩) vs.length c]] w' fun e w'' => e = .returned (.int .i64 (winB rule sz vs)) ∧ Ext w' w'') := fun w' hw' => winb_impl w' rule sz _ c vs (hR.ext hw')
  generalize winB rule sz vs = ww at HW HS h1
  generalize winB rule sz (vs.take m) = wt at HT HS
  generalize winB rule sz (vs.drop m) = wd at HD HS
  cases h3 : (wt == wd) <;> cases h4 : (wt == ww)
  all_goals
    have HF := hide HS.out
    rw [h3, h4] at HF
    clear HS
    go_enter Tryz.func24, Tryz.ntmps24
    go_wp2_with (first | (go_at_call 18; refine (HW.out _ (by repeat (first | exact Ext.refl _ | assumption | refine Ext.alloc ?_ _ | refine Ext.drew ?_ | refine Ext.trans ?_ (by assumption)))).mono ?_; rintro e w1 ⟨rfl, hw1⟩; have q0 := Ext.keep (w' := w1) (by repeat (first | exact Ext.refl _ | assumption | refine Ext.alloc ?_ _ | refine Ext.drew ?_ | refine Ext.trans ?_ (by assumption))) q0; have q1 := Ext.keep (w' := w1) (by repeat (first | exact Ext.refl _ | assumption | refine Ext.alloc ?_ _ | refine Ext.drew ?_ | refine Ext.trans ?_ (by assumption))) q1) | (go_at_call 63; refine (in_impl _ _ _ _).mono ?_; rintro e w1 ⟨rfl, hw1⟩; have q0 := Ext.keep (w' := w1) (by repeat (first | exact Ext.refl _ | assumption | refine Ext.alloc ?_ _ | refine Ext.drew ?_ | refine Ext.trans ?_ (by assumption))) q0; have q1 := Ext.keep (w' := w1) (by repeat (first | exact Ext.refl _ | assumption | refine Ext.alloc ?_ _ | refine Ext.drew ?_ | refine Ext.trans ?_ (by assumption))) q1))
    refine wp_region_X (by kernel_rfl) (by kernel_rfl) ?_
    repeat' (refine wpX_stepQ (fun K hK => ?_)
             go_simp
             try (rw [if_neg (by intro h; simp [undef] at h)])
             try split
             all_goals
               first
               | (refine hK _ ?_
                  clear hK K)
               | (apply Exists.intro
                  refine ⟨fun wq hwq => ?_, hK _ ?_⟩
                  · have hcq := hwq.cellS
                    go_simp
                    first
                    | exact ⟨Ext.refl _, rfl⟩
                  clear hK K))
    refine wpX_stepS rfl (by kernel_rfl) (fun K hK wq hwq => ?_)
    go_simp
    refine (HT.out _ (by repeat (first | exact Ext.refl _ | assumption | refine Ext.alloc ?_ _ | refine Ext.drew ?_ | refine Ext.trans ?_ (by assumption)))).mono ?_
    rintro e w4 ⟨rfl, hw4⟩
    refine ⟨hw4, hK _ _ ?_⟩
    clear hK K
    have q0 := hw4.keep (hwq.keep q0)
    have q1 := hw4.keep (hwq.keep q1)
    repeat' (refine wpX_stepQ (fun K hK => ?_)
             go_simp
             try (rw [if_neg (by intro h; simp [undef] at h)])
             try split
             all_goals
               first
               | (refine hK _ ?_
                  clear hK K)
               | (apply Exists.intro
                  refine ⟨fun wq hwq => ?_, hK _ ?_⟩
                  · have hcq := hwq.cellS
                    go_simp
                    first
                    | exact ⟨Ext.refl _, rfl⟩
                  clear hK K))
    refine wpX_nil (fun wz hwz => ?_)
    have q0 := hwz.keep q0
    have q1 := hwz.keep q1
    go_wp2
    refine wp_region_X (by kernel_rfl) (by kernel_rfl) ?_
    repeat' (refine wpX_stepQ (fun K hK => ?_)
             go_simp
             try (rw [if_neg (by intro h; simp [undef] at h)])
             try split
             all_goals
               first
               | (refine hK _ ?_
                  clear hK K)
               | (apply Exists.intro
                  refine ⟨fun wq hwq => ?_, hK _ ?_⟩
                  · have hcq := hwq.cellS
                    go_simp
                    first
                    | exact ⟨Ext.refl _, rfl⟩
                  clear hK K))
    refine wpX_stepS rfl (by kernel_rfl) (fun K hK wq hwq => ?_)
    go_simp
    refine (HD.out _ (by repeat (first | exact Ext.refl _ | assumption | refine Ext.alloc ?_ _ | refine Ext.drew ?_ | refine Ext.trans ?_ (by assumption)))).mono ?_
    rintro e w5 ⟨rfl, hw5⟩
    refine ⟨hw5, hK _ _ ?_⟩
    clear hK K
    repeat' (refine wpX_stepQ (fun K hK => ?_)
             go_simp
             try (rw [if_neg (by intro h; simp [undef] at h)])
             try split
             all_goals
               first
               | (refine hK _ ?_
                  clear hK K)
               | (apply Exists.intro
                  refine ⟨fun wq hwq => ?_, hK _ ?_⟩
                  · have hcq := hwq.cellS
                    go_simp
                    first
                    | exact ⟨Ext.refl _, rfl⟩
                  clear hK K))
    refine wpX_nil (fun wv hwv => ?_)
    go_wp2
    go_ret
    exact ⟨ret_bool (by rw [HF.out]; first | rfl | (simp only [bne, h4]; rfl)), (by repeat (first | exact Ext.refl _ | assumption | refine Ext.alloc ?_ _ | refine Ext.drew ?_ | refine Ext.trans ?_ (by assumption)))⟩

def balOk (sz : Int) (x : Int × Int) : Bool := inR x.1 0 (topOf sz) && inR x.2 1 1000
def appOk (sz : Int) (bs : List (Int × Int)) : Bool := inR sz 1 6 && (decide (bs.length ≤ 12) && bs.all (balOk sz))

open Go.RowKit

def bitAt (s : Int) (a : Nat) : Bool := s.toNat.testBit a
def cntTo (s : Int) (k : Nat) : Int := ((List.range k).countP (bitAt s) : Nat)
set_option maxRecDepth 100000 in
theorem cnt_hit {s : Int} {k : Nat} (h : bitAt s k = true) : cntTo s (k + 1) = cntTo s k + 1 := by
  simp [cntTo, List.range_succ, List.countP_append, h]
set_option maxRecDepth 100000 in
theorem cnt_miss {s : Int} {k : Nat} (h : bitAt s k = false) : cntTo s (k + 1) = cntTo s k := by
  simp [cntTo, List.range_succ, List.countP_append, h]
set_option maxRecDepth 100000 in
theorem cnt_bd (s : Int) (k : Nat) : 0 ≤ cntTo s k ∧ cntTo s k ≤ k := by
  unfold cntTo
  have h := List.countP_le_length (p := bitAt s) (l := List.range k)
  rw [List.length_range] at h
  omega
set_option maxRecDepth 100000 in
theorem sets {p : Int → Prop} (h : ∀ n : Nat, n < 64 → p (n : Int)) {s : Int} (h0 : 0 ≤ s) (h63 : s ≤ 63) : p s := by
  have := h s.toNat (by omega)
  rwa [Int.toNat_of_nonneg h0] at this
set_option maxRecDepth 100000 in
theorem pow_wrap {k : Nat} (h : k < 6) : wrap64 (2 ^ k) = 2 ^ k := by
  have : k = 0 ∨ k = 1 ∨ k = 2 ∨ k = 3 ∨ k = 4 ∨ k = 5 := by omega
  rcases this with rfl | rfl | rfl | rfl | rfl | rfl <;> exact IntWalk.wrap64_in _ (by decide)
set_option maxRecDepth 100000 in
theorem bit_spec {s : Int} (h0 : 0 ≤ s) (h63 : s ≤ 63) {k : Nat} (h : k < 6) : (bits BinOp.and IntKind.i64 s (2 ^ k) != 0) = bitAt s k := by
  refine sets (p := fun s => (bits BinOp.and IntKind.i64 s (2 ^ k) != 0) = bitAt s k) (fun n hn => ?_) h0 h63
  have : k = 0 ∨ k = 1 ∨ k = 2 ∨ k = 3 ∨ k = 4 ∨ k = 5 := by omega
  rcases this with rfl | rfl | rfl | rfl | rfl | rfl <;> revert n <;> decide

set_option maxRecDepth 100000 in
theorem and_u64 (a b : Int) : bits BinOp.and IntKind.u64 a b = IntKind.u64.wrap ((BitVec.ofInt 64 a &&& BitVec.ofInt 64 b).toNat : Int) := rfl
set_option maxRecDepth 100000 in
theorem and_i64 (a b : Int) : bits BinOp.and IntKind.i64 a b = IntKind.i64.wrap ((BitVec.ofInt 64 a &&& BitVec.ofInt 64 b).toNat : Int) := rfl

/-- The common members of two sets. -/
def landI (a b : Int) : Int := bits BinOp.and IntKind.i64 a b
set_option maxRecDepth 100000 in
theorem landI_comm (a b : Int) : landI a b = landI b a := by
  show IntKind.i64.wrap _ = IntKind.i64.wrap _
  rw [BitVec.and_comm]
set_option maxRecDepth 100000 in
theorem ofInt_i64 (a : Nat) (ha : a < 9223372036854775808) : (BitVec.ofInt 64 (a : Int)).toNat = a := by
  rw [BitVec.ofInt_natCast, BitVec.toNat_ofNat]; exact Nat.mod_eq_of_lt (by omega)
set_option maxRecDepth 100000 in
theorem landI_nat (a b : Nat) (ha : a < 64) (hb : b < 64) : landI (a : Int) (b : Int) = ((a &&& b : Nat) : Int) := by
  have hx : a &&& b < 2 ^ 6 := Nat.and_lt_two_pow _ (by omega)
  show IntKind.i64.wrap ((BitVec.ofInt 64 (a : Int) &&& BitVec.ofInt 64 (b : Int)).toNat : Int) = _
  rw [BitVec.toNat_and, ofInt_i64 a (by omega), ofInt_i64 b (by omega), IntKind.wrap_i64]
  omega
set_option maxRecDepth 100000 in
theorem landI_bd {a b : Int} (a0 : 0 ≤ a) (a1 : a ≤ 63) (b0 : 0 ≤ b) (b1 : b ≤ 63) : 0 ≤ landI a b ∧ landI a b ≤ 63 := by
  have h := landI_nat a.toNat b.toNat (by omega) (by omega)
  rw [Int.toNat_of_nonneg a0, Int.toNat_of_nonneg b0] at h
  have hx : a.toNat &&& b.toNat < 2 ^ 6 := Nat.and_lt_two_pow _ (by omega)
  rw [h]; omega
set_option maxRecDepth 100000 in
theorem top_le {sz : Int} (h1 : 1 ≤ sz) (h6 : sz ≤ 6) : topOf sz ≤ 63 := by
  have : sz = 1 ∨ sz = 2 ∨ sz = 3 ∨ sz = 4 ∨ sz = 5 ∨ sz = 6 := by omega
  rcases this with rfl | rfl | rfl | rfl | rfl | rfl <;> decide
set_option maxRecDepth 100000 in
theorem ok_size {sz : Int} {bs : List (Int × Int)} (h : appOk sz bs = true) : 1 ≤ sz ∧ sz ≤ 6 := by
  simp only [appOk, Bool.and_eq_true] at h; exact inR_iff.1 h.1
set_option maxRecDepth 100000 in
theorem ok_len {sz : Int} {bs : List (Int × Int)} (h : appOk sz bs = true) : bs.length ≤ 12 := by
  simp only [appOk, Bool.and_eq_true, decide_eq_true_eq] at h; exact h.2.1
set_option maxRecDepth 100000 in
theorem ok_at {sz : Int} {bs : List (Int × Int)} (h : appOk sz bs = true) {x : Int × Int} (hx : x ∈ bs) : 0 ≤ x.1 ∧ x.1 ≤ topOf sz ∧ x.1 ≤ 63 ∧ 1 ≤ x.2 ∧ x.2 ≤ 1000 := by
  obtain ⟨h1, h6⟩ := ok_size h
  have ht := top_le h1 h6
  simp only [appOk, Bool.and_eq_true, decide_eq_true_eq] at h
  have h2 := List.all_eq_true.1 h.2.2 x hx
  simp only [balOk, Bool.and_eq_true] at h2
  have h3 := inR_iff.1 h2.1
  have h4 := inR_iff.1 h2.2
  omega

def seatsFor (sz : Int) (bs : List (Int × Int)) (set ballot : Int) : Int :=
  if appOk sz bs && inR set 0 (topOf sz) && inR ballot 0 (bs.length - 1) then cntTo (landI (bs.getD ballot.toNat (0, 0)).1 set) 6 else -1

/-- The slice address a reads as the bytes bs. -/
def RdY (w : World) (a : Option Addr) (bs : List Int) : Prop := bs ≠ [] → ∃ b off, a = some ⟨b, off, none⟩ ∧ ∀ (j : Nat) (x : Int), bs[j]? = some x → w.cell? ⟨b, off + j, none⟩ = some (.int .u8 x)
set_option maxRecDepth 100000 in
theorem RdY.ext {w w' : World} {a : Option Addr} {bs : List Int} (h : RdY w a bs) (hw : Ext w w') : RdY w' a bs := fun hne => by
  obtain ⟨b, off, ha, hj⟩ := h hne
  exact ⟨b, off, ha, fun j x hx => hw.keep (hj j x hx)⟩
set_option maxRecDepth 100000 in
theorem RdY.at_ {w : World} {a : Option Addr} {bs : List Int} (h : RdY w a bs) {k : Nat} {x : Int} (hx : bs[k]? = some x) : ∃ b off, a = some ⟨b, off, none⟩ ∧ w.cell? ⟨b, off + k, none⟩ = some (.int .u8 x) := by
  obtain ⟨b, off, ha, hj⟩ := h (ne_of_at hx)
  exact ⟨b, off, ha, hj k x hx⟩
set_option maxRecDepth 100000 in
theorem RdY.lt {w : World} {b off : Nat} {bs : List Int} (h : RdY w (some ⟨b, off, none⟩) bs) (hne : bs ≠ []) : b < w.heap.size := by
  obtain ⟨x, hx⟩ := at_of_lt (xs := bs) (k := 0) (List.length_pos_iff.2 hne)
  obtain ⟨b', off', e, hc⟩ := h.at_ hx
  injection e with e
  injection e with e
  subst e
  exact World.block_lt_of_cell? w _ hc
set_option maxRecDepth 100000 in
theorem Only.rdY {g : Nat} {w w' : World} (h : Only g w w') {a : Option Addr} {bs : List Int} (hr : RdY w a bs) (hne : ∀ b off, a = some ⟨b, off, none⟩ → bs ≠ [] → b < g) : RdY w' a bs := fun hx => by
  obtain ⟨b, off, rfl, hc⟩ := hr hx
  exact ⟨b, off, rfl, fun j x hj => h.keep (by have := hne b off rfl hx; show b ≠ g; omega) (hc j x hj)⟩
def curF (a : Option Addr) (n c : Nat) (i h : Int) (o : Nat) : Value := if o = 0 then .slice a n c else if o = 1 then .int .i64 i else if o = 2 then .int .i64 h else undef
/-- Block g is such a source. -/
def Cur (w : World) (g : Nat) : Prop := ∃ (a : Option Addr) (bs : List Int) (c i : Nat) (h : Int), BlkF w g 3 (curF a bs.length c i h) ∧ i ≤ bs.length ∧ bs.length ≤ 1048576 ∧ RdY w a bs ∧ ∀ b off, a = some ⟨b, off, none⟩ → bs ≠ [] → b < g
set_option maxRecDepth 100000 in
theorem Cur.ext {w w' : World} {g : Nat} (h : Cur w g) (hw : Ext w w') : Cur w' g := by
  obtain ⟨a, bs, c, i, k, hB, h1, h2, hR, h3⟩ := h
  exact ⟨a, bs, c, i, k, hB.ext hw, h1, h2, hR.ext hw, h3⟩
set_option maxRecDepth 100000 in
theorem Cur.lt {w : World} {g : Nat} (h : Cur w g) : g < w.heap.size := by
  obtain ⟨a, bs, c, i, k, hB, _⟩ := h
  exact hB.lt
set_option maxRecDepth 100000 in
theorem Cur.only {w w' : World} {g g' : Nat} (h : Cur w g) (hg : g < g') (hw : Only g' w w') : Cur w' g := by
  obtain ⟨a, bs, c, i, k, hB, h1, h2, hR, h3⟩ := h
  exact ⟨a, bs, c, i, k, hw.blk hB (by omega), h1, h2, hw.rdY hR (fun b off ha hne => by have := h3 b off ha hne; omega), h3⟩
set_option maxRecDepth 100000 in
theorem and255 (x : Int) : 0 ≤ bits BinOp.and IntKind.i64 x 255 ∧ bits BinOp.and IntKind.i64 x 255 ≤ 255 := by
  have h1 : bits BinOp.and IntKind.i64 x 255 = IntKind.i64.wrap ((BitVec.ofInt 64 x &&& BitVec.ofInt 64 255).toNat : Int) := rfl
  have h2 : (BitVec.ofInt 64 x &&& BitVec.ofInt 64 255).toNat ≤ 255 := by
    rw [BitVec.toNat_and]
    exact Nat.le_trans Nat.and_le_right (by decide)
  rw [h1, IntWalk.i64_in _ (by omega)]
  omega

set_option maxRecDepth 100000 in
set_option maxHeartbeats 1000000 in
theorem byte_spec (w : World) (g : Nat) (hC : Cur w g) :
    Calls Tryz.prog 33 #[.pointer (some ⟨g, 0, none⟩)] w fun e w' => ∃ x : Int, e = .returned (.int .i64 x) ∧ (0 ≤ x ∧ x ≤ 255) ∧ Cur w' g ∧ Only g w w' := by
  obtain ⟨a, bs, c, i, h, hB, hi, hl, hR, hb⟩ := hC
  have c0 : w.cell? ⟨g, 0, none⟩ = some (.slice a bs.length c) := hB.cell 0 (by omega)
  have c1 : w.cell? ⟨g, 1, none⟩ = some (.int .i64 i) := hB.cell 1 (by omega)
  have c2 : w.cell? ⟨g, 2, none⟩ = some (.int .i64 h) := hB.cell 2 (by omega)
  have z2 := hB.fr 2
  have HB := hide hB
  have HRB := hide hb
  have HRY := hide hR
  clear hB hb hR
  go_enter Tryz.func33, Tryz.ntmps33
  go_wp2
  have hO : Only g w (w.setCell ⟨g, 2, none⟩ (.int .i64 (wrap64 (wrap64 (h * 6364136223846793005) + 1442695040888963407)))) := (Only.refl g w).setCell 2 _
  have hB1 := (HB.out.set 2 (by omega) (.int .i64 (wrap64 (wrap64 (h * 6364136223846793005) + 1442695040888963407)))).congr (f' := curF a bs.length c i (wrap64 (wrap64 (h * 6364136223846793005) + 1442695040888963407))) (fun o ho => by
    match o, ho with
    | 0, _ => rfl
    | 1, _ => rfl
    | 2, _ => rfl)
  generalize wrap64 (wrap64 (h * 6364136223846793005) + 1442695040888963407) = h2 at hO hB1 ⊢
  generalize w.setCell ⟨g, 2, none⟩ (.int .i64 h2) = W at hO hB1 ⊢
  have hR1 := hO.rdY HRY.out HRB.out
  have c0 : W.cell? ⟨g, 0, none⟩ = some (.slice a bs.length c) := hB1.cell 0 (by omega)
  have c1 : W.cell? ⟨g, 1, none⟩ = some (.int .i64 i) := hB1.cell 1 (by omega)
  have c2 : W.cell? ⟨g, 2, none⟩ = some (.int .i64 h2) := hB1.cell 2 (by omega)
  have HB1 := hide hB1
  have HR1 := hide hR1
  clear hB1 hR1 HB HRY z2
  refine wp_region_X (by kernel_rfl) (by kernel_rfl) ?_
  repeat' (refine wpX_stepQ (fun K hK => ?_)
           go_simp
           try (rw [if_neg (by intro h; simp [undef] at h)])
           try split
           all_goals
             first
             | (refine hK _ ?_
                clear hK K)
             | (apply Exists.intro
                refine ⟨fun wq hwq => ?_, hK _ ?_⟩
                · have hcq := hwq.cellS
                  go_simp
                  first
                  | exact ⟨Ext.refl _, rfl⟩
                clear hK K))
  refine wpX_nil (fun wz hwz => ?_)
  have c0 := hwz.keep c0
  have c1 := hwz.keep c1
  have hO := hO.trans (Only.of_ext hwz)
  have HB1 := hide (HB1.out.ext hwz)
  have HR1 := hide (HR1.out.ext hwz)
  clear hwz
  have hx := and255 (bits BinOp.xor IntKind.i64 (h2 / 8589934592) (h2 / 35184372088832))
  generalize bits BinOp.and IntKind.i64 (bits BinOp.xor IntKind.i64 (h2 / 8589934592) (h2 / 35184372088832)) 255 = X at hx ⊢
  obtain ⟨wa, hwa⟩ : ∃ wa : World, wa = wz := ⟨_, rfl⟩
  subst hwa
  by_cases hit : i < bs.length
  · obtain ⟨y, hy⟩ := at_of_lt hit
    obtain ⟨b, off, rfl, d0⟩ := HR1.out.at_ hy
    clear hy
    go_wp2
    refine wp_region_X (by kernel_rfl) (by kernel_rfl) ?_
    repeat' (refine wpX_stepQ (fun K hK => ?_)
             go_simp
             try (rw [if_neg (by intro h; simp [undef] at h)])
             try split
             all_goals
               first
               | (refine hK _ ?_
                  clear hK K)
               | (apply Exists.intro
                  refine ⟨fun wq hwq => ?_, hK _ ?_⟩
                  · have hcq := hwq.cellS
                    go_simp
                    first
                    | exact ⟨Ext.refl _, rfl⟩
                  clear hK K))
    refine wpX_nil (fun wz hwz => ?_)
    have c0 := hwz.keep c0
    have c1 := hwz.keep c1
    have d0 := hwz.keep d0
    have hO := hO.trans (Only.of_ext hwz)
    have HB1 := hide (HB1.out.ext hwz)
    have HR1 := hide (HR1.out.ext hwz)
    clear hwz
    obtain ⟨wc, hwc⟩ : ∃ wc : World, wc = wz := ⟨_, rfl⟩
    subst hwc
    go_wp2
    refine wp_region_X (by kernel_rfl) (by kernel_rfl) ?_
    repeat' (refine wpX_stepQ (fun K hK => ?_)
             go_simp
             try (rw [if_neg (by intro h; simp [undef] at h)])
             try split
             all_goals
               first
               | (refine hK _ ?_
                  clear hK K)
               | (apply Exists.intro
                  refine ⟨fun wq hwq => ?_, hK _ ?_⟩
                  · have hcq := hwq.cellS
                    go_simp
                    first
                    | exact ⟨Ext.refl _, rfl⟩
                  clear hK K))
    refine wpX_nil (fun wz hwz => ?_)
    have c1 := hwz.keep c1
    have hO := hO.trans (Only.of_ext hwz)
    have hBz := HB1.out.ext hwz
    have z1 := hBz.fr 1
    have HB2 := hide hBz
    have HR2 := hide (HR1.out.ext hwz)
    have y1 : wrap64 ((i : Int) + 1) = ((i + 1 : Nat) : Int) := by rw [IntWalk.wrap64_in _ (by omega)]; omega
    clear hwz hBz
    have hx2 := and255 (IntKind.i64.wrap (X + IntKind.i64.wrap y))
    generalize bits BinOp.and IntKind.i64 (IntKind.i64.wrap (X + IntKind.i64.wrap y)) 255 = Z at hx2 ⊢
    go_wp2
    go_ret
    refine ⟨Z, rfl, hx2, ⟨some ⟨b, off, none⟩, bs, c, i + 1, h2, (HB2.out.set 1 (by omega) _).congr (fun o ho => ?_), by omega, hl, ((Only.refl g wz).setCell 1 _).rdY HR2.out HRB.out, HRB.out⟩, hO.setCell 1 _⟩
    match o, ho with
    | 0, _ => rfl
    | 1, _ => rfl
    | 2, _ => rfl
  · go_wp2
    refine wp_region_X (by kernel_rfl) (by kernel_rfl) ?_
    repeat' (refine wpX_stepQ (fun K hK => ?_)
             go_simp
             try (rw [if_neg (by intro h; simp [undef] at h)])
             try split
             all_goals
               first
               | (refine hK _ ?_
                  clear hK K)
               | (apply Exists.intro
                  refine ⟨fun wq hwq => ?_, hK _ ?_⟩
                  · have hcq := hwq.cellS
                    go_simp
                    first
                    | exact ⟨Ext.refl _, rfl⟩
                  clear hK K))
    refine wpX_nil (fun wz hwz => ?_)
    go_wp2
    go_ret
    exact ⟨X, rfl, hx, ⟨a, bs, c, i, h2, HB1.out.ext hwz, hi, hl, HR1.out.ext hwz, HRB.out⟩, hO.trans (Only.of_ext hwz)⟩

set_option maxRecDepth 100000 in
theorem tmod_bd {x : Int} {n : Nat} (h0 : 0 ≤ x) (hn : 1 ≤ n) : 0 ≤ x.tmod n ∧ x.tmod n < n := by
  obtain ⟨k, rfl⟩ : ∃ k : Nat, x = k := ⟨x.toNat, by omega⟩
  have h : ((k : Int).tmod (n : Int)) = ((k % n : Nat) : Int) := rfl
  have h2 : k % n < n := Nat.mod_lt k (by omega)
  rw [h]; omega

set_option maxRecDepth 100000 in
set_option maxHeartbeats 1000000 in
theorem below_spec (w : World) (g n : Nat) (hC : Cur w g) (n1 : 1 ≤ n) (n2 : n ≤ 256) :
    Calls Tryz.prog 77 #[.pointer (some ⟨g, 0, none⟩), .int .i64 n] w fun e w' => ∃ x : Nat, e = .returned (.int .i64 x) ∧ x < n ∧ Cur w' g ∧ Only g w w' := by
  have i1 : ¬ (n : Int) ≤ 0 := by omega
  have i2 : (n : Int) ≤ 256 := by omega
  have i3 : n ≤ 256 := by omega
  have i4 : (n : Int) ≠ 0 := by omega
  have i5 : n ≠ 0 := by omega
  go_enter Tryz.func77, Tryz.ntmps77
  go_wp2_with fail
  refine (byte_spec _ g hC).mono ?_
  rintro e w1 ⟨x, rfl, hx, hC1, hO1⟩
  obtain ⟨m, hm⟩ : ∃ m : Nat, x.tmod n = m := ⟨(x.tmod n).toNat, by have := tmod_bd (n := n) hx.1 n1; omega⟩
  have hmn : m < n := by have := tmod_bd (n := n) hx.1 n1; omega
  go_wp2
  go_ret
  exact ⟨m, rfl, hmn, hC1, hO1⟩

set_option maxRecDepth 100000 in
theorem cur_new (w : World) (a : Option Addr) (c : Nat) (x : Int) (bs : List Int) (hR : RdY w a bs) (hl : bs.length ≤ 1048576) : Cur (w.alloc (.cells #[.slice a bs.length c, .int .i64 0, .int .i64 x] 81)) w.heap.size := by
  refine ⟨a, bs, c, 0, x, (BlkF.new w #[.slice a bs.length c, .int .i64 0, .int .i64 x] 81).congr (fun o ho => ?_), Nat.zero_le _, hl, hR.ext (Ext.new _ _), fun b off ha hne => ?_⟩
  · match o, ho with
    | 0, _ => rfl
    | 1, _ => rfl
    | 2, _ => rfl
  · subst ha
    exact hR.lt hne

set_option maxRecDepth 100000 in
set_option maxHeartbeats 1000000 in
theorem new_spec (w : World) (a : Option Addr) (c : Nat) (bs : List Int) (hR : RdY w a bs) (hl : bs.length ≤ 1048576) :
    Calls Tryz.prog 76 #[.slice a bs.length c] w fun e w' => ∃ g, e = .returned (.pointer (some ⟨g, 0, none⟩)) ∧ w.heap.size ≤ g ∧ Cur w' g ∧ Ext w w' := by
  have y0 : wrap64 (2139 + (bs.length : Int)) = 2139 + (bs.length : Int) := IntWalk.wrap64_in _ (by omega)
  go_enter Tryz.func76, Tryz.ntmps76
  go_wp2_with fail
  go_loopw [3, 4] (fun h i wr => ∃ (k : Nat) (x : Int), i = .int .i64 k ∧ h = .int .i64 x ∧ k ≤ bs.length ∧ wr = w) (fun _ i _ => bs.length - (intOf i).toNat)
  case atStart => exact ⟨0, _, rfl, rfl, Nat.zero_le _, rfl⟩
  case round =>
    obtain ⟨k, x, rfl, rfl, hk, rfl⟩ := hrel
    by_cases hkt : k < bs.length ∧ k < 4000
    · obtain ⟨k1, k2⟩ := hkt
      obtain ⟨y, hy⟩ := at_of_lt k1
      obtain ⟨b, off, rfl, c0⟩ := hR.at_ hy
      have k3 : (k : Int) < 4000 := by omega
      clear hy
      go_wp2
      exact ⟨⟨k + 1, _, by go_num, rfl, by omega, trivial⟩, by simp [intOf]; omega⟩
    · by_cases k1 : k < bs.length
      · have k2 : ¬ k < 4000 := fun h => hkt ⟨k1, h⟩
        have k3 : ¬ (k : Int) < 4000 := by omega
        clear hkt
        go_wp2
        go_ret
        exact ⟨wr.heap.size, rfl, Nat.le_refl _, cur_new wr a c x bs hR hl, Ext.new _ _⟩
      · clear hkt
        go_wp2
        go_ret
        exact ⟨wr.heap.size, rfl, Nat.le_refl _, cur_new wr a c x bs hR hl, Ext.new _ _⟩

set_option maxRecDepth 100000 in
/-- What happened in memory: old blocks are as they were but for the source. -/
theorem Only.fresh {g k : Nat} {a b c : World} (h : Only g a b) (hg : b.grownBy c (some k)) (hk : a.heap.size ≤ k) : Only g a c :=
  ⟨hg.os.trans h.os, hg.tape.trans h.tape, hg.output.trans h.output, Nat.le_trans h.size hg.size, fun i hi hne => (hg.block i (Nat.lt_of_lt_of_le hi h.size) (fun e => by injection e with e; omega)).trans (h.block i hi hne)⟩

set_option maxRecDepth 100000 in
set_option maxHeartbeats 1000000 in
theorem lnew_spec (w : World) (a : Option Addr) (c n : Nat) (bs : List Int) (hR : RdY w a bs) (hl : bs.length ≤ 1048576) (hn : n ≤ 1000) :
    Calls Tryz.prog 32 #[.slice a bs.length c, .int .i64 n] w fun e w' => ∃ g, e = .returned (.pointer (some ⟨g, 0, none⟩)) ∧ w.heap.size ≤ g ∧ Cur w' g ∧ Ext w w' := by
  go_enter Tryz.func32, Tryz.ntmps32
  go_wp2_with fail
  refine (new_spec w a c bs hR hl).mono ?_
  rintro e w1 ⟨g, rfl, hg, hC, hw1⟩
  go_wp2_with fail
  go_loopw [6] (fun i wr => ∃ k : Nat, i = .int .i64 k ∧ k ≤ n ∧ Cur wr g ∧ Ext w wr) (fun i _ => n - (intOf i).toNat)
  case atStart => exact ⟨0, rfl, Nat.zero_le _, hC, hw1⟩
  case round =>
    clear hC hw1
    obtain ⟨k, rfl, hk, hC, hwr⟩ := hrel
    by_cases hkt : k < n
    · have HC := hide hC
      clear hC
      go_wp2_with fail
      refine (byte_spec _ g HC.out).mono ?_
      rintro e w2 ⟨x, rfl, hx, hC2, hO2⟩
      go_wp2
      exact ⟨⟨k + 1, by go_num, by omega, hC2, Only.ext hwr hO2 hg⟩, by simp [intOf]; omega⟩
    · have HC := hide hC
      clear hC
      go_wp2
      go_ret
      exact ⟨g, rfl, hg, HC.out, hwr⟩

set_option maxRecDepth 100000 in
set_option maxHeartbeats 1000000 in
theorem numY_spec (w : World) (a : Option Addr) (c n : Nat) (bs : List Int) (hR : RdY w a bs) (hl : bs.length ≤ 1048576) (hn : n ≤ 1000) :
    Calls Tryz.prog 14 #[.slice a bs.length c, .int .i64 n] w fun e w' => ∃ x : Nat, e = .returned (.int .i64 x) ∧ x ≤ 65536 ∧ Ext w w' := by
  go_enter Tryz.func14, Tryz.ntmps14
  go_wp2_with fail
  refine (lnew_spec w a c n bs hR hl hn).mono ?_
  rintro e w1 ⟨g, rfl, hg, hC, hw1⟩
  go_wp2_with fail
  refine (byte_spec _ g hC).mono ?_
  rintro e w2 ⟨x, rfl, hx, hC2, hO2⟩
  have hw2 := Only.ext hw1 hO2 hg
  go_wp2_with fail
  refine (byte_spec _ g hC2).mono ?_
  rintro e w3 ⟨y, rfl, hy, hC3, hO3⟩
  have y1 : wrap64 (x * 256) = x * 256 := IntWalk.wrap64_in _ (by omega)
  have y2 : wrap64 (x * 256 + y) = x * 256 + y := IntWalk.wrap64_in _ (by omega)
  go_wp2
  go_ret
  exact ⟨(x * 256 + y).toNat, ret_int (by omega), by omega, Only.ext hw2 hO3 hg⟩

open Go.ChangeShapes Go.WideShapes Go.ChangeAt Go.RowKit Go.Joins Go.Deep

section
variable {H : Type} {enc : TypeId × Value → H} {W : World} {base : Nat} {spare : Nat → Bool} {held : Bool} {b0 : Nat}
set_option maxRecDepth 100000 in
theorem openY_trod {fuel : Nat} {v : Value} {x : DataW H × List MemPlace} (h : DataW.trod enc Tryz.prog W base spare held fuel 33 [v] = some x) :
    ∃ (a : Option Addr) (xs : List Int) (c : Nat), v = .slice a xs.length c ∧ RdY W a xs ∧ xs.length ≤ c ∧ xs.length ≤ maxLen := by
  rcases open_ints Tryz.underlying33 Tryz.underlying5 (by kernel_rfl) h with ⟨e1, _⟩ | ⟨a, len, cap, zs, e1, _, hl, hm, hzl, _, hc, _⟩
  · simp at e1
    subst e1
    exact ⟨none, [], 0, rfl, fun h => absurd rfl h, Nat.le_refl _, by simp⟩
  · simp at e1
    subst e1
    have hle : len ≤ zs.length := by rw [hzl]; split <;> omega
    have htl : (zs.take len).length = len := by simp; omega
    refine ⟨some a, zs.take len, cap, by rw [htl], fun hne => ?_, by omega, by omega⟩
    have hpos : 0 < len := by have := List.length_pos_iff.2 hne; omega
    have h0 := hc 0 (by omega)
    obtain ⟨b, off, spot⟩ := a
    have hspot : spot = none := by simpa [Addr.add] using World.cell?_spot h0
    subst hspot
    refine ⟨b, off, rfl, fun j y hy => ?_⟩
    have hj := lt_of_at hy
    rw [htl] at hj
    have h2 := hc j (by omega)
    rw [addr_add_none] at h2
    rw [h2]
    rw [List.getElem?_take_of_lt hj] at hy
    simp [List.getD, hy]

set_option maxRecDepth 100000 in
theorem openY {v : Value} {d : DataW H} {p : List MemPlace} (hv : Value.okWide Tryz.prog W .any b0 33 v) (h : DataW.Trod enc Tryz.prog W base spare held 33 v d p) :
    ∃ (a : Option Addr) (bs : List Int) (c : Nat), v = .slice a bs.length c ∧ RdY W a bs ∧ bs.length ≤ maxLen := by
  obtain ⟨m, hm⟩ := h
  obtain ⟨_, _, _, rfl⟩ := okWide_slice Tryz.underlying33 hv
  obtain ⟨a, xs, c, hv, hR, _, hl⟩ := openY_trod hm
  exact ⟨a, xs, c, hv, hR, hl⟩
end

end Go.Proofs.YtilcdnkkabmbfaaGreat
