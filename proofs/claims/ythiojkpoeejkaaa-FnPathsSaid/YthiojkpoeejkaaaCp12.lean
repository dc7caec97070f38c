/- What the statement's reading of its arguments says of memory. What the statements' reading of profiles says of memory. What the statements' reading of bytes says of memory. The top cycle. Strengths of paths, as tables that are improved cell by cell. -/
import Derived.Test.YthiojkpoeejkaaaCp1
import Derived.ProofKit
import Derived.OpenShut
import Derived.ShutString
import Derived.ChangeOld
import Derived.Below
import Derived.Deep.Slices
import Derived.Deep.Fields
import Derived.ChangeSame
import Derived.Lib.SmallJoins
import Derived.Test.YthiojkpoeejkaaaCp2
import Derived.Test.YthiojkpoeejkaaaCp4
import Derived.Test.YthiojkpoeejkaaaCp5
import Derived.Test.YthiojkpoeejkaaaCp6
namespace Go.Proofs.Ythiojkpoeejkaaa
open Go.RowKit

open Go.ChangeShapes Go.WideShapes Go.ChangeAt Go.RowKit Go.Joins Go.Deep

section
variable {H : Type} {enc : TypeId × Value → H} {P : Program} {w : World} {base : Nat} {spare : Nat → Bool} {held : Bool}
set_option maxRecDepth 100000 in
theorem open_slice_fields {t e : TypeId} {fs : Array Field} {fuel : Nat} {cs : List Value} {x : DataW H × List MemPlace} (ht : P.underlying t = some (.slice e)) (he : P.underlying e = some (.struct fs))
    (hone : oneCellFields P fs = true) (hC : P.cellsOf e = fs.size) (h : DataW.trod enc P w base spare held fuel t cs = some x) :
    (cs = [.slice none 0 0] ∧ x = (.nil, [])) ∨
    ∃ (a : Addr) (len cap m : Nat), cs = [.slice (some a) len cap] ∧ base ≤ a.block ∧ len ≤ cap ∧ cap ≤ maxLen ∧ len ≤ m ∧
      ∀ i, i < m → ∃ (ys : List (DataW H × List MemPlace)) (n : Nat), ys.length = fs.size ∧
        ∀ (j : Nat) (f : Field), fs[j]? = some f → ∃ (v : Value) (y : DataW H × List MemPlace), w.cell? (a.add (i * fs.size + j)) = some v ∧ ys[j]? = some y ∧ DataW.trod enc P w base spare held n f.type [v] = some y := by
  rcases open_slice ht h with h0 | ⟨a, len, cap, m, n, D, Pl, hcs, hb, hl, hm, hmm, hx, hi⟩
  · exact .inl h0
  · refine .inr ⟨a, len, cap, m, hcs, hb, hl, hm, by rw [hmm]; split <;> omega, fun i him => ?_⟩
    obtain ⟨cs', hc, ht'⟩ := hi i him
    rw [hC] at hc
    obtain ⟨ys, n', hn', hy, hlen, hyl, hf⟩ := DataW.trod_struct he ht'
    obtain ⟨_, hcl, hat⟩ := World.cells?_some hc
    refine ⟨ys, n', hyl, fun j f hj => ?_⟩
    obtain ⟨ho, hk⟩ := hone_of hone j f hj
    have hjl : j < fs.size := (Array.getElem?_eq_some_iff.1 hj).1
    have hcell := hat j hjl
    have hv : cs'[j]? = some (cs'[j]'(by omega)) := List.getElem?_eq_getElem (by omega)
    have h1 := hf j f hj
    rw [ho, hk] at h1
    have hone' : (cs'.drop j).take 1 = [cs'[j]'(by omega)] := by
      rw [List.drop_eq_getElem_cons (by omega)]
      rfl
    rw [hone'] at h1
    have hys : ys[j]? = some (ys[j]'(by omega)) := List.getElem?_eq_getElem (by omega)
    refine ⟨_, _, ?_, hys, h1.trans hys⟩
    rw [← Go.Deep.add_add, hcell, hv]
end

set_option maxRecDepth 100000 in
/-- A list of n elements with a property each. -/
theorem list_of {α : Type} (p : Nat → α → Prop) : ∀ n : Nat, (∀ i, i < n → ∃ x, p i x) → ∃ xs : List α, xs.length = n ∧ ∀ i x, xs[i]? = some x → p i x
  | 0, _ => ⟨[], rfl, fun i x h => by simp at h⟩
  | n + 1, h => by
    obtain ⟨xs, hl, hx⟩ := list_of p n (fun i hi => h i (by omega))
    obtain ⟨y, hy⟩ := h n (by omega)
    refine ⟨xs ++ [y], by simp [hl], fun i x hi => ?_⟩
    by_cases e : i < n
    · rw [List.getElem?_append_left (by omega)] at hi
      exact hx i x hi
    · by_cases e2 : i = n
      · subst e2
        rw [List.getElem?_append_right (by omega), hl] at hi
        simp at hi
        subst hi
        exact hy
      · rw [List.getElem?_append_right (by omega), List.getElem?_eq_none (by simp; omega)] at hi
        cases hi

set_option maxRecDepth 100000 in
theorem addr_add_none {b off : Nat} (k : Nat) : (Addr.add ⟨b, off, none⟩ k) = ⟨b, off + k, none⟩ := by
  unfold Addr.add
  split <;> simp_all

set_option maxRecDepth 100000 in
theorem own : ownKnob Try.prog.godebug = Option.none := by kernel_rfl
set_option maxRecDepth 100000 in
theorem laidOut : laidOutB Try.prog = true := by kernel_rfl

open Go.ChangeShapes Go.WideShapes Go.ChangeAt Go.RowKit Go.Joins Go.Deep

section
variable {H : Type} {enc : TypeId × Value → H} {W : World} {base : Nat} {spare : Nat → Bool} {held : Bool} {b0 : Nat}
set_option maxRecDepth 100000 in
theorem openI_trod {fuel : Nat} {v : Value} {x : DataW H × List MemPlace} (h : DataW.trod enc Try.prog W base spare held fuel 29 [v] = some x) :
    ∃ (a : Option Addr) (xs : List Int) (c : Nat), v = .slice a xs.length c ∧ RdI W a xs ∧ xs.length ≤ c ∧ xs.length ≤ maxLen := by
  rcases open_ints Try.underlying29 Try.underlying3 (by kernel_rfl) h with ⟨e1, _⟩ | ⟨a, len, cap, zs, e1, _, hl, hm, hzl, _, hc, _⟩
  · simp at e1
    subst e1
    exact ⟨none, [], 0, rfl, RdI.nil _ _, Nat.le_refl _, by simp⟩
  · simp at e1
    subst e1
    have hle : len ≤ zs.length := by rw [hzl]; split <;> omega
    have htl : (zs.take len).length = len := by simp; omega
    refine ⟨some a, zs.take len, cap, by rw [htl], fun hne => ?_, by omega, by omega⟩
    have hpos : 0 < len := by have := List.length_pos_iff.2 hne; omega
    have h0 := hc 0 (by omega)
    obtain ⟨b, off, spot⟩ := a
    have hspot : spot = none := by simpa [Addr.add] using World.cell?_spot h0
    subst hspot
    refine ⟨b, off, rfl, fun j y hy => ?_⟩
    have hj := lt_of_at hy
    rw [htl] at hj
    have h2 := hc j (by omega)
    rw [addr_add_none] at h2
    rw [h2]
    rw [List.getElem?_take_of_lt hj] at hy
    simp [List.getD, hy]

set_option maxRecDepth 100000 in
theorem openIS {v : Value} {d : DataW H} {p : List MemPlace} (hv : Value.okWide Try.prog W .any b0 29 v) (h : DataW.Trod enc Try.prog W base spare held 29 v d p) :
    ∃ (a : Option Addr) (xs : List Int) (c : Nat), v = .slice a xs.length c ∧ RdI W a xs ∧ xs.length ≤ maxLen := by
  obtain ⟨m, hm⟩ := h
  obtain ⟨_, _, _, rfl⟩ := okWide_slice Try.underlying29 hv
  obtain ⟨a, xs, c, hv, hR, _, hl⟩ := openI_trod hm
  exact ⟨a, xs, c, hv, hR, hl⟩

end

open Go.ChangeShapes Go.WideShapes Go.ChangeAt Go.RowKit Go.Joins Go.Deep

section
variable {H : Type} {enc : TypeId × Value → H} {W : World} {base : Nat} {spare : Nat → Bool} {held : Bool} {b0 : Nat}
set_option maxRecDepth 100000 in
theorem openY_trod {fuel : Nat} {v : Value} {x : DataW H × List MemPlace} (h : DataW.trod enc Try.prog W base spare held fuel 22 [v] = some x) :
    ∃ (a : Option Addr) (xs : List Int) (c : Nat), v = .slice a xs.length c ∧ RdY W a xs ∧ xs.length ≤ c ∧ xs.length ≤ maxLen := by
  rcases open_ints Try.underlying22 Try.underlying5 (by kernel_rfl) h with ⟨e1, _⟩ | ⟨a, len, cap, zs, e1, _, hl, hm, hzl, _, hc, _⟩
  · simp at e1
    subst e1
    exact ⟨none, [], 0, rfl, fun h => absurd rfl h, Nat.le_refl _, by simp⟩
  · simp at e1
    subst e1
    have hle : len ≤ zs.length := by rw [hzl]; split <;> omega
    have htl : (zs.take len).length = len := by simp; omega
    refine ⟨some a, zs.take len, cap, by rw [htl], fun hne => ?_, by omega, by omega⟩
    have hpos : 0 < len := by have := List.length_pos_iff.2 hne; omega
    have h0 := hc 0 (by omega)
    obtain ⟨b, off, spot⟩ := a
    have hspot : spot = none := by simpa [Addr.add] using World.cell?_spot h0
    subst hspot
    refine ⟨b, off, rfl, fun j y hy => ?_⟩
    have hj := lt_of_at hy
    rw [htl] at hj
    have h2 := hc j (by omega)
    rw [addr_add_none] at h2
    rw [h2]
    rw [List.getElem?_take_of_lt hj] at hy
    simp [List.getD, hy]

set_option maxRecDepth 100000 in
theorem openY {v : Value} {d : DataW H} {p : List MemPlace} (hv : Value.okWide Try.prog W .any b0 22 v) (h : DataW.Trod enc Try.prog W base spare held 22 v d p) :
    ∃ (a : Option Addr) (bs : List Int) (c : Nat), v = .slice a bs.length c ∧ RdY W a bs ∧ bs.length ≤ maxLen := by
  obtain ⟨m, hm⟩ := h
  obtain ⟨_, _, _, rfl⟩ := okWide_slice Try.underlying22 hv
  obtain ⟨a, xs, c, hv, hR, _, hl⟩ := openY_trod hm
  exact ⟨a, xs, c, hv, hR, hl⟩
end

set_option maxRecDepth 100000 in
theorem bit_shr {s : Int} (h0 : 0 ≤ s) (h63 : s ≤ 63) {k : Nat} (h : k < 6) : (bits BinOp.and IntKind.i64 (s / 2 ^ k) 1 == 1) = bitAt s k := by
  refine sets (p := fun s => (bits BinOp.and IntKind.i64 (s / 2 ^ k) 1 == 1) = bitAt s k) (fun n hn => ?_) h0 h63
  have : k = 0 ∨ k = 1 ∨ k = 2 ∨ k = 3 ∨ k = 4 ∨ k = 5 := by omega
  rcases this with rfl | rfl | rfl | rfl | rfl | rfl <;> revert n <;> decide
set_option maxRecDepth 100000 in
theorem bit_shr0 {s : Int} (h0 : 0 ≤ s) (h63 : s ≤ 63) {k : Nat} (h : k < 6) : (bits BinOp.and IntKind.i64 (s / 2 ^ k) 1 == 0) = !bitAt s k := by
  refine sets (p := fun s => (bits BinOp.and IntKind.i64 (s / 2 ^ k) 1 == 0) = !bitAt s k) (fun n hn => ?_) h0 h63
  have : k = 0 ∨ k = 1 ∨ k = 2 ∨ k = 3 ∨ k = 4 ∨ k = 5 := by omega
  rcases this with rfl | rfl | rfl | rfl | rfl | rfl <;> revert n <;> decide
set_option maxRecDepth 100000 in
theorem bit_spec0 {s : Int} (h0 : 0 ≤ s) (h63 : s ≤ 63) {k : Nat} (h : k < 6) : (bits BinOp.and IntKind.i64 s (2 ^ k) == 0) = !bitAt s k := by
  rw [← bit_spec h0 h63 h]; simp [bne]

def restC (vs : List Vt) (s : Int) (i j : Nat) : Bool := !(bitAt s i && (!bitAt s j && !bt vs i j))
def restB (n : Nat) (vs : List Vt) (s : Int) (i : Nat) : Bool := allN n (restC vs s i)
def restA (n : Nat) (vs : List Vt) (s : Int) : Bool := allN n (restB n vs s)
set_option maxRecDepth 100000 in
theorem rest_no {n : Nat} {vs : List Vt} {s : Int} {i j : Nat} (hi : i < n) (hj : j < n) (h : restC vs s i j = false) : restA n vs s = false := allN_f hi (allN_f hj h)

def topI (n : Nat) (vs : List Vt) : Nat → Int
  | 0 => ((2 ^ n - 1 : Nat) : Int)
  | k + 1 => if cntTo ((k + 1 : Nat) : Int) 6 < cntTo (topI n vs k) 6 ∧ restA n vs ((k + 1 : Nat) : Int) = true then ((k + 1 : Nat) : Int) else topI n vs k
def memL (n : Nat) (s : Int) : List Int := upL n (bitAt s)
def topS (n : Nat) (vs : List Vt) : Nat → List Int
  | 0 => []
  | k + 1 => if restA n vs ((k + 1 : Nat) : Int) = true ∧ (topS n vs k = [] ∨ (memL n ((k + 1 : Nat) : Int)).length < (topS n vs k).length) then memL n ((k + 1 : Nat) : Int) else topS n vs k
def topO (sz : Int) (vs : List Vt) : List Int := if profOk sz vs then topS sz.toNat vs (2 ^ sz.toNat - 1) else []

set_option maxRecDepth 100000 in
theorem memL_len (n : Nat) (s : Int) : ((memL n s).length : Int) = cntTo s n := by
  unfold memL upL cntTo
  rw [List.length_map, List.countP_eq_length_filter]
set_option maxRecDepth 100000 in
theorem cnt6 : ∀ n : Nat, n ≤ 5 → ∀ k : Nat, k < 32 → k < 2 ^ n → cntTo (k : Int) n = cntTo (k : Int) 6 := by decide +kernel
set_option maxRecDepth 100000 in
theorem cnt_less : ∀ n : Nat, n ≤ 5 → ∀ k : Nat, k < 32 → k < 2 ^ n - 1 → cntTo (k : Int) 6 < cntTo ((2 ^ n - 1 : Nat) : Int) 6 := by decide +kernel
set_option maxRecDepth 100000 in
theorem cnt_pos : ∀ k : Nat, k < 32 → 1 ≤ k → 1 ≤ cntTo (k : Int) 6 := by decide +kernel
set_option maxRecDepth 100000 in
theorem full_bit : ∀ n : Nat, n ≤ 5 → ∀ k : Nat, k < 6 → k < n → bitAt ((2 ^ n - 1 : Nat) : Int) k = true := by decide +kernel
set_option maxRecDepth 100000 in
theorem mem_cut0 : ∀ s : Nat, s < 64 → ∀ k : Nat, k < 7 → ∀ n : Nat, n < 7 → (!decide (s < 2 ^ k) || (!decide (s < 2 ^ n) || (memL k (s : Int) == memL n (s : Int)))) = true := by decide +kernel
set_option maxRecDepth 100000 in
theorem mem_cut (s : Nat) (hs : s < 64) (k : Nat) (hk : k < 7) (n : Nat) (hn : n < 7) (h1 : s < 2 ^ k) (h2 : s < 2 ^ n) : memL k (s : Int) = memL n (s : Int) := by
  have h := mem_cut0 s hs k hk n hn
  simpa [h1, h2] using h
set_option maxRecDepth 100000 in
theorem pow_le32 {n : Nat} (h : n ≤ 5) : 2 ^ n ≤ 32 := by
  have : n = 0 ∨ n = 1 ∨ n = 2 ∨ n = 3 ∨ n = 4 ∨ n = 5 := by omega
  rcases this with rfl | rfl | rfl | rfl | rfl | rfl <;> decide
set_option maxRecDepth 100000 in
theorem rest_full {n : Nat} (hn : n ≤ 5) (vs : List Vt) : restA n vs ((2 ^ n - 1 : Nat) : Int) = true :=
  allN_t fun i _ => allN_t fun j hj => by unfold restC; rw [full_bit n hn j (by omega) hj]; simp

set_option maxRecDepth 100000 in
theorem topI_succ (n : Nat) (vs : List Vt) (k s : Nat) (hs : s = k + 1) : topI n vs s = if cntTo (s : Int) 6 < cntTo (topI n vs k) 6 ∧ restA n vs (s : Int) = true then (s : Int) else topI n vs k := by subst hs; rfl
set_option maxRecDepth 100000 in
theorem topS_succ (n : Nat) (vs : List Vt) (k s : Nat) (hs : s = k + 1) : topS n vs s = if restA n vs (s : Int) = true ∧ (topS n vs k = [] ∨ (memL n (s : Int)).length < (topS n vs k).length) then memL n (s : Int) else topS n vs k := by subst hs; rfl
set_option maxRecDepth 100000 in
theorem topI_nat (n : Nat) (vs : List Vt) : ∀ k, k ≤ 2 ^ n - 1 → ∃ t : Nat, topI n vs k = t ∧ t ≤ 2 ^ n - 1
  | 0, _ => ⟨_, rfl, Nat.le_refl _⟩
  | k + 1, hk => by
    unfold topI
    split
    · exact ⟨k + 1, rfl, hk⟩
    · exact topI_nat n vs k (by omega)
set_option maxRecDepth 100000 in
theorem top_rel {n : Nat} (n1 : 1 ≤ n) (hn : n ≤ 5) (vs : List Vt) : ∀ k, k ≤ 2 ^ n - 1 →
    (topS n vs k = [] ∧ topI n vs k = ((2 ^ n - 1 : Nat) : Int) ∧ (k = 2 ^ n - 1 → False)) ∨ (∃ t : Nat, topI n vs k = t ∧ 1 ≤ t ∧ t ≤ 2 ^ n - 1 ∧ topS n vs k = memL n (t : Int))
  | 0, _ => .inl ⟨rfl, rfl, fun h => by
      have : 2 ^ 1 ≤ 2 ^ n := Nat.pow_le_pow_right (by decide) n1
      omega⟩
  | k + 1, hk => by
    have hp := pow_le32 hn
    have h32 : k + 1 < 2 ^ n := by omega
    have hlen : ∀ t : Nat, t ≤ 2 ^ n - 1 → ((memL n (t : Int)).length : Int) = cntTo (t : Int) 6 := fun t ht => by
      rw [memL_len, cnt6 n hn t (by omega) (by omega)]
    rcases top_rel n1 hn vs k (by omega) with ⟨e1, e2, _⟩ | ⟨t, e1, e2, e3, e4⟩
    · by_cases hg : restA n vs ((k + 1 : Nat) : Int) = true
      · refine .inr ⟨k + 1, ?_, by omega, hk, ?_⟩
        · unfold topI
          by_cases hf : k + 1 = 2 ^ n - 1
          · rw [e2]; split
            · rfl
            · rw [hf]
          · rw [if_pos ⟨by rw [e2]; exact cnt_less n hn (k + 1) (by omega) (by omega), hg⟩]
        · unfold topS; rw [if_pos ⟨hg, .inl e1⟩]
      · refine .inl ⟨?_, ?_, fun hf => hg (by rw [hf]; exact rest_full hn vs)⟩
        · unfold topS; rw [if_neg (fun h => hg h.1)]; exact e1
        · unfold topI; rw [if_neg (fun h => hg h.2)]; exact e2
    · have l1 := hlen t e3
      have l2 := hlen (k + 1) hk
      have l3 := cnt_pos t (by omega) e2
      by_cases hc : cntTo ((k + 1 : Nat) : Int) 6 < cntTo (t : Int) 6 ∧ restA n vs ((k + 1 : Nat) : Int) = true
      · refine .inr ⟨k + 1, ?_, by omega, hk, ?_⟩
        · unfold topI; rw [e1, if_pos hc]
        · unfold topS; rw [e4, if_pos ⟨hc.2, .inr (by omega)⟩]
      · refine .inr ⟨t, ?_, e2, e3, ?_⟩
        · unfold topI; rw [e1, if_neg hc]
        · unfold topS; rw [e4, if_neg (fun h => hc ⟨?_, h.1⟩)]
          rcases h.2 with h2 | h2
          · rw [h2] at l1; simp at l1; omega
          · omega
set_option maxRecDepth 100000 in
theorem topO_impl {n : Nat} (n1 : 1 ≤ n) (hn : n ≤ 5) (vs : List Vt) : topS n vs (2 ^ n - 1) = memL n (topI n vs (2 ^ n - 1)) := by
  rcases top_rel n1 hn vs _ (Nat.le_refl _) with ⟨_, _, h⟩ | ⟨t, e1, _, _, e4⟩
  · exact (h rfl).elim
  · rw [e4, e1]
set_option maxRecDepth 100000 in
theorem topS_len (n : Nat) (vs : List Vt) : ∀ k, (topS n vs k).length ≤ n
  | 0 => by simp [topS]
  | k + 1 => by
    unfold topS
    split
    · exact upL_len _ _
    · exact topS_len n vs k
set_option maxRecDepth 100000 in
theorem topO_len (sz : Int) (vs : List Vt) : (topO sz vs).length ≤ 5 := by
  unfold topO
  cases h0 : profOk sz vs
  · simp
  · obtain ⟨n, rfl, n1, n2⟩ := prof_nat h0
    have := topS_len n vs (2 ^ n - 1)
    simp; omega

set_option maxRecDepth 100000 in
theorem shr_pos {s : Int} (h0 : 0 ≤ s) (k : Nat) : (0 < s / 2 ^ k) ↔ ¬ s.toNat < 2 ^ k := by
  obtain ⟨m, rfl⟩ : ∃ m : Nat, s = m := ⟨s.toNat, by omega⟩
  have e : (m : Int) / 2 ^ k = ((m / 2 ^ k : Nat) : Int) := by simp
  rw [e, Int.toNat_natCast]
  have h1 : 0 < 2 ^ k := Nat.pow_pos (by decide)
  constructor
  · intro h h2
    rw [Nat.div_eq_of_lt h2] at h
    simp at h
  · intro h
    have : 1 ≤ m / 2 ^ k := (Nat.one_le_div_iff h1).2 (by omega)
    omega

set_option maxRecDepth 100000 in
set_option maxHeartbeats 1000000 in
theorem members_impl (w : World) (s : Int) (h0 : 0 ≤ s) (h63 : s ≤ 63) (n : Nat) (hn : n ≤ 6) (hs : s.toNat < 2 ^ n) :
    Calls Try.prog 143 #[.int .i64 s] w fun e w' => ∃ v, e = .returned v ∧ OwnI w' w.heap.size v (memL n s) ∧ Ext w w' := by
  have HS := hide hs
  clear hs
  go_enter Try.func143, Try.ntmps143
  go_wp2_with fail
  go_loopw [3, 4] (fun v i wr => ∃ k : Nat, k ≤ 6 ∧ i = .int .i64 k ∧ OwnI wr w.heap.size v (memL k s) ∧ Ext w wr) (fun _ i _ => 6 - (intOf i).toNat)
  case atStart => exact ⟨0, Nat.zero_le _, rfl, OwnI.nil _ _, Ext.refl _⟩
  case round =>
    obtain ⟨k, hk, rfl, hown, hwr⟩ := hrel
    have hsp := shr_pos h0 k
    have hul := upL_len k (bitAt s)
    by_cases hlt : s.toNat < 2 ^ k
    · have hz : ¬ (0 < s / 2 ^ k) := fun h => hsp.1 h hlt
      have HL := hide hlt
      clear hsp hlt
      go_wp2
      go_ret
      refine ⟨_, rfl, ?_, hwr⟩
      obtain ⟨m, rfl⟩ : ∃ m : Nat, s = m := ⟨s.toNat, by omega⟩
      rw [← mem_cut m (by omega) k (by omega) n (by omega) (by simpa using HL.out) (by simpa using HS.out)]
      exact hown
    · have hz : 0 < s / 2 ^ k := hsp.2 hlt
      have hk5 : k < 6 := by
        rcases Nat.lt_or_ge k 6 with h | h
        · exact h
        · have : k = 6 := by omega
          subst this
          exact absurd (show s.toNat < 2 ^ 6 by omega) hlt
      have hb := bit_shr h0 h63 hk5
      clear hsp hlt
      cases hbit : bitAt s k
      · go_wp2
        exact ⟨⟨k + 1, by omega, by go_num, by unfold memL; rw [upL_succ, hbit]; simpa [memL] using hown, (by repeat (first | exact Ext.refl _ | assumption | refine Ext.alloc ?_ _ | refine Ext.drew ?_ | refine Ext.trans ?_ (by assumption)))⟩, by simp [intOf]; omega⟩
      · go_wp2_with (at_builtin; refine wpList_appI w _ rfl _ _ rfl _ (memL k s) _ rfl (hown.ext (by repeat (first | exact Ext.refl _ | assumption | refine Ext.alloc ?_ _ | refine Ext.drew ?_ | refine Ext.trans ?_ (by assumption)))) (by repeat (first | exact Ext.refl _ | assumption | refine Ext.alloc ?_ _ | refine Ext.drew ?_ | refine Ext.trans ?_ (by assumption))) rfl (by unfold memL; omega) ?_; intro v' w3 hown3 hw3)
        exact ⟨⟨k + 1, by omega, by go_num, by unfold memL at hown3 ⊢; rw [upL_succ, hbit]; exact hown3, (by repeat (first | exact Ext.refl _ | assumption | refine Ext.alloc ?_ _ | refine Ext.drew ?_ | refine Ext.trans ?_ (by assumption)))⟩, by simp [intOf]; omega⟩

set_option maxRecDepth 100000 in
set_option maxHeartbeats 2000000 in
theorem rest_impl (w : World) (n : Nat) (a : Option Addr) (c : Nat) (vs : List Vt) (s : Int) (hR : RdV w a vs) (hS : SmallV n vs) (n2 : n ≤ 5) (h0 : 0 ≤ s) (h63 : s ≤ 63) :
    Calls Try.prog 142 #[.agg #[.int .i64 n, .slice a vs.length c], .int .i64 s] w fun e w' => e = .returned (.bool (restA n vs s)) ∧ Ext w w' := by
  have q0 := new0 w (.int .i64 n) [.slice a vs.length c] 47
  have q1 := new1 w (.int .i64 n) (.slice a vs.length c) [] 47
  have HS := hide hS
  clear hS
  go_enter Try.func142, Try.ntmps142
  go_wp2_with fail
  have h10 := Ext.new w (.cells #[.int .i64 n, .slice a vs.length c] 47)
  generalize w.alloc (.cells #[.int .i64 n, .slice a vs.length c] 47) = W0 at q0 q1 h10 ⊢
  have hR0 := hR.ext h10
  go_loopw [5, 6, 9, 13, 14] (fun _ _ i _ _ wr => ∃ k : Nat, k ≤ n ∧ i = .int .i64 k ∧ Hid (∀ j, j < k → restB n vs s j = true) ∧ Ext W0 wr) (fun _ _ i _ _ _ => n - (intOf i).toNat)
  case atStart => exact ⟨0, Nat.zero_le _, rfl, fun j hj => absurd hj (by omega), Ext.refl _⟩
  case round =>
    obtain ⟨i, hi, rfl, hall, hwr⟩ := hrel
    have r0 := hwr.keep q0
    by_cases hit : i < n
    · go_wp2
      obtain ⟨wo, hwo⟩ : ∃ wo : World, wo = wr := ⟨_, rfl⟩
      subst hwo
      go_loopw [6, 14] (fun _ m wr => ∃ k : Nat, k ≤ n ∧ m = .int .i64 k ∧ Hid (∀ j, j < k → restC vs s i j = true) ∧ Ext W0 wr) (fun _ m _ => n - (intOf m).toNat)
      case atStart => exact ⟨0, Nat.zero_le _, rfl, fun j hj => absurd hj (by omega), hwr⟩
      case round =>
        clear hwr r0
        obtain ⟨m, hm, rfl, hal2, hwr⟩ := hrel
        have r0 := hwr.keep q0
        have r1 := hwr.keep q1
        by_cases hlt : m < n
        · have hb := bit_shr h0 h63 (k := i) (by omega)
          have hb2 := bit_shr0 h0 h63 (k := m) (by omega)
          have hRr := hR0.ext hwr
          cases c1 : bitAt s i
          · rw [c1] at hb
            go_wp2
            exact ⟨⟨m + 1, by omega, by go_num, upto_succ hal2.out (by simp [restC, c1]), (by repeat (first | exact Ext.refl _ | assumption | refine Ext.alloc ?_ _ | refine Ext.drew ?_ | refine Ext.trans ?_ (by assumption)))⟩, by simp [intOf]; omega⟩
          rw [c1] at hb
          cases c2 : bitAt s m
          case true =>
            rw [c2] at hb2
            go_wp2
            exact ⟨⟨m + 1, by omega, by go_num, upto_succ hal2.out (by simp [restC, c2]), (by repeat (first | exact Ext.refl _ | assumption | refine Ext.alloc ?_ _ | refine Ext.drew ?_ | refine Ext.trans ?_ (by assumption)))⟩, by simp [intOf]; omega⟩
          rw [c2] at hb2
          cases c3 : beatsV vs i m
          · go_wp2_with (go_at_call 138; refine (beats_impl _ _ _ _ _ _ _ (hRr.ext (by repeat (first | exact Ext.refl _ | assumption | refine Ext.alloc ?_ _ | refine Ext.drew ?_ | refine Ext.trans ?_ (by assumption)))) HS.out).mono ?_; rintro e w1 ⟨rfl, hw1⟩)
            go_ret
            exact ⟨ret_bool (by rw [rest_no hit hlt (by simp [restC, c1, c2, bt, c3])]), h10.trans (by repeat (first | exact Ext.refl _ | assumption | refine Ext.alloc ?_ _ | refine Ext.drew ?_ | refine Ext.trans ?_ (by assumption)))⟩
          · go_wp2_with (go_at_call 138; refine (beats_impl _ _ _ _ _ _ _ (hRr.ext (by repeat (first | exact Ext.refl _ | assumption | refine Ext.alloc ?_ _ | refine Ext.drew ?_ | refine Ext.trans ?_ (by assumption)))) HS.out).mono ?_; rintro e w1 ⟨rfl, hw1⟩)
            exact ⟨⟨m + 1, by omega, by go_num, upto_succ hal2.out (by simp [restC, bt, c3]), (by repeat (first | exact Ext.refl _ | assumption | refine Ext.alloc ?_ _ | refine Ext.drew ?_ | refine Ext.trans ?_ (by assumption)))⟩, by simp [intOf]; omega⟩
        · have hmn : m = n := by omega
          go_wp2
          exact ⟨⟨i + 1, by omega, by go_num, upto_succ hall.out (allN_t (by rw [← hmn]; exact hal2.out)), hwr⟩, by simp [intOf]; omega⟩
    · have hin : i = n := by omega
      go_wp2
      go_ret
      exact ⟨ret_bool (by unfold restA; rw [allN_t (fun j hj => hall.out j (by omega))]), h10.trans hwr⟩

set_option maxRecDepth 100000 in
set_option maxHeartbeats 4000000 in
theorem top_impl (w : World) (sz : Int) (a : Option Addr) (c : Nat) (vs : List Vt) (hR : RdV w a vs) :
    Calls Try.prog 50 #[.agg #[.int .i64 sz, .slice a vs.length c]] w fun e w' => ∃ v, e = .returned v ∧ OwnI w' w.heap.size v (topO sz vs) ∧ Ext w w' := by
  have q0 := new0 w (.int .i64 sz) [.slice a vs.length c] 47
  have q1 := new1 w (.int .i64 sz) (.slice a vs.length c) [] 47
  cases h0 : profOk sz vs
  · go_enter Try.func50, Try.ntmps50
    go_wp2_with (go_at_call 35; refine (prof_impl _ _ _ _ _ (hR.ext (by repeat (first | exact Ext.refl _ | assumption | refine Ext.alloc ?_ _ | refine Ext.drew ?_ | refine Ext.trans ?_ (by assumption))))).mono ?_; rintro e w1 ⟨rfl, hw1⟩; have q0 := Ext.keep (w' := w1) (by repeat (first | exact Ext.refl _ | assumption | refine Ext.alloc ?_ _ | refine Ext.drew ?_ | refine Ext.trans ?_ (by assumption))) q0; have q1 := Ext.keep (w' := w1) (by repeat (first | exact Ext.refl _ | assumption | refine Ext.alloc ?_ _ | refine Ext.drew ?_ | refine Ext.trans ?_ (by assumption))) q1)
    go_ret
    exact ⟨_, rfl, by simp [topO, h0]; exact OwnI.nil _ _, (by repeat (first | exact Ext.refl _ | assumption | refine Ext.alloc ?_ _ | refine Ext.drew ?_ | refine Ext.trans ?_ (by assumption)))⟩
  obtain ⟨n, rfl, n1, n2⟩ := prof_nat h0
  have HS := hide (prof_small h0)
  have hp := pow_le32 n2
  have hp1 : 1 ≤ 2 ^ n := Nat.pow_pos (by decide)
  have hpn : ((2 : Int) ^ n) = ((2 ^ n : Nat) : Int) := by simp
  obtain ⟨N, hN⟩ : ∃ N : Nat, N = 2 ^ n - 1 := ⟨_, rfl⟩
  have z1 : wrap64 ((2 : Int) ^ n) = ((N + 1 : Nat) : Int) := by rw [IntWalk.wrap64_in _ (by omega), hpn]; omega
  have z2 : IntKind.i64.wrap ((2 : Int) ^ n) = ((N + 1 : Nat) : Int) := by rw [IntWalk.i64_left]; exact z1
  have hN31 : N ≤ 31 := by omega
  have HT := hide (topI_nat n vs)
  rw [← hN] at HT
  have HO := hide (topO_impl n1 n2 vs)
  rw [← hN] at HO
  have HI : Hid (topI n vs 0 = N) := by rw [hN]; exact hide rfl
  have HN : Hid (2 ^ n = N + 1) := hide (by omega)
  clear hp hp1 hpn hN
  go_enter Try.func50, Try.ntmps50
  go_wp2_with (go_at_call 35; refine (prof_impl _ _ _ _ _ (hR.ext (by repeat (first | exact Ext.refl _ | assumption | refine Ext.alloc ?_ _ | refine Ext.drew ?_ | refine Ext.trans ?_ (by assumption))))).mono ?_; rintro e w1 ⟨rfl, hw1⟩; have q0 := Ext.keep (w' := w1) (by repeat (first | exact Ext.refl _ | assumption | refine Ext.alloc ?_ _ | refine Ext.drew ?_ | refine Ext.trans ?_ (by assumption))) q0; have q1 := Ext.keep (w' := w1) (by repeat (first | exact Ext.refl _ | assumption | refine Ext.alloc ?_ _ | refine Ext.drew ?_ | refine Ext.trans ?_ (by assumption))) q1)
  have hw : Ext w w1 := (by repeat (first | exact Ext.refl _ | assumption | refine Ext.alloc ?_ _ | refine Ext.drew ?_ | refine Ext.trans ?_ (by assumption)))
  have hR0 := hR.ext hw
  obtain ⟨wb, hwb⟩ : ∃ wb : World, wb = w1 := ⟨_, rfl⟩
  subst hwb
  go_loopw [3, 4] (fun b i wr => ∃ k : Nat, k ≤ N ∧ i = .int .i64 ((k + 1 : Nat) : Int) ∧ b = .int .i64 (topI n vs k) ∧ Ext wb wr) (fun _ i _ => N + 1 - (intOf i).toNat)
  case atStart => exact ⟨0, Nat.zero_le _, rfl, by rw [HI.out], Ext.refl _⟩
  case round =>
    obtain ⟨k, hk, rfl, rfl, hwr⟩ := hrel
    obtain ⟨t, ht, htN⟩ := HT.out k hk
    have r0 := hwr.keep q0
    have r1 := hwr.keep q1
    have hRr := hR0.ext hwr
    obtain ⟨s, hs⟩ : ∃ s : Nat, s = k + 1 := ⟨_, rfl⟩
    have hst := topI_succ n vs k s hs
    rw [ht] at hst ⊢
    rw [← hs]
    have hT := hide ht
    have hS := hide hst
    have hs1 : k + 1 ≤ s := by omega
    have hs2 : s ≤ k + 1 := by omega
    clear ht hst hs
    by_cases hlt : k < N
    · cases c1 : decide (cntTo (s : Int) 6 < cntTo (t : Int) 6)
      · go_wp2_with (go_at_call 23; refine (size_impl _ _ (by omega) (by omega)).mono ?_; rintro e w1 ⟨rfl, hw1⟩; have r0 := Ext.keep (w' := w1) (by repeat (first | exact Ext.refl _ | assumption | refine Ext.alloc ?_ _ | refine Ext.drew ?_ | refine Ext.trans ?_ (by assumption))) r0; have r1 := Ext.keep (w' := w1) (by repeat (first | exact Ext.refl _ | assumption | refine Ext.alloc ?_ _ | refine Ext.drew ?_ | refine Ext.trans ?_ (by assumption))) r1)
        exact ⟨⟨s, by omega, by go_num, by rw [hS.out, if_neg (fun h => by simp [h.1] at c1)], (by repeat (first | exact Ext.refl _ | assumption | refine Ext.alloc ?_ _ | refine Ext.drew ?_ | refine Ext.trans ?_ (by assumption)))⟩, by simp [intOf]; omega⟩
      · cases c2 : restA n vs (s : Int)
        · go_wp2_with (first | (go_at_call 23; refine (size_impl _ _ (by omega) (by omega)).mono ?_; rintro e w1 ⟨rfl, hw1⟩; have r0 := Ext.keep (w' := w1) (by repeat (first | exact Ext.refl _ | assumption | refine Ext.alloc ?_ _ | refine Ext.drew ?_ | refine Ext.trans ?_ (by assumption))) r0; have r1 := Ext.keep (w' := w1) (by repeat (first | exact Ext.refl _ | assumption | refine Ext.alloc ?_ _ | refine Ext.drew ?_ | refine Ext.trans ?_ (by assumption))) r1) | (go_at_call 142; refine (rest_impl _ _ _ _ _ _ (hRr.ext (by repeat (first | exact Ext.refl _ | assumption | refine Ext.alloc ?_ _ | refine Ext.drew ?_ | refine Ext.trans ?_ (by assumption)))) HS.out n2 (by omega) (by omega)).mono ?_; rintro e w1 ⟨rfl, hw1⟩; have r0 := Ext.keep (w' := w1) (by repeat (first | exact Ext.refl _ | assumption | refine Ext.alloc ?_ _ | refine Ext.drew ?_ | refine Ext.trans ?_ (by assumption))) r0; have r1 := Ext.keep (w' := w1) (by repeat (first | exact Ext.refl _ | assumption | refine Ext.alloc ?_ _ | refine Ext.drew ?_ | refine Ext.trans ?_ (by assumption))) r1))
          exact ⟨⟨s, by omega, by go_num, by rw [hS.out, if_neg (fun h => by rw [c2] at h; cases h.2)], (by repeat (first | exact Ext.refl _ | assumption | refine Ext.alloc ?_ _ | refine Ext.drew ?_ | refine Ext.trans ?_ (by assumption)))⟩, by simp [intOf]; omega⟩
        · go_wp2_with (first | (go_at_call 23; refine (size_impl _ _ (by omega) (by omega)).mono ?_; rintro e w1 ⟨rfl, hw1⟩; have r0 := Ext.keep (w' := w1) (by repeat (first | exact Ext.refl _ | assumption | refine Ext.alloc ?_ _ | refine Ext.drew ?_ | refine Ext.trans ?_ (by assumption))) r0; have r1 := Ext.keep (w' := w1) (by repeat (first | exact Ext.refl _ | assumption | refine Ext.alloc ?_ _ | refine Ext.drew ?_ | refine Ext.trans ?_ (by assumption))) r1) | (go_at_call 142; refine (rest_impl _ _ _ _ _ _ (hRr.ext (by repeat (first | exact Ext.refl _ | assumption | refine Ext.alloc ?_ _ | refine Ext.drew ?_ | refine Ext.trans ?_ (by assumption)))) HS.out n2 (by omega) (by omega)).mono ?_; rintro e w1 ⟨rfl, hw1⟩; have r0 := Ext.keep (w' := w1) (by repeat (first | exact Ext.refl _ | assumption | refine Ext.alloc ?_ _ | refine Ext.drew ?_ | refine Ext.trans ?_ (by assumption))) r0; have r1 := Ext.keep (w' := w1) (by repeat (first | exact Ext.refl _ | assumption | refine Ext.alloc ?_ _ | refine Ext.drew ?_ | refine Ext.trans ?_ (by assumption))) r1))
          exact ⟨⟨s, by omega, by go_num, by rw [hS.out, if_pos ⟨by simpa using c1, c2⟩], (by repeat (first | exact Ext.refl _ | assumption | refine Ext.alloc ?_ _ | refine Ext.drew ?_ | refine Ext.trans ?_ (by assumption)))⟩, by simp [intOf]; omega⟩
    · have hkN : k = N := by omega
      go_wp2_with fail
      refine (members_impl _ (t : Int) (by omega) (by omega) n (by omega) (by rw [HN.out]; simp; omega)).mono ?_
      rintro e w2 ⟨v, rfl, hv, hw2⟩
      go_wp2
      go_ret
      refine ⟨_, rfl, ?_, (by repeat (first | exact Ext.refl _ | assumption | refine Ext.alloc ?_ _ | refine Ext.drew ?_ | refine Ext.trans ?_ (by assumption)))⟩
      have he : topO n vs = memL n (t : Int) := by
        simp only [topO, h0, if_true, Int.toNat_natCast]
        rw [show 2 ^ n - 1 = N by have := HN.out; omega, HO.out, ← hT.out, hkN]
      rw [he]
      exact hv.base (Nat.le_trans hw.size hwr.size)

set_option maxRecDepth 100000 in
theorem OwnI.formL {w : World} {B : Nat} {u : Value} {xs : List Int} (h : OwnI w B u xs) : ∃ a n c, u = .slice a n c ∧ n = xs.length := by
  obtain ⟨a, c, rfl, _⟩ := h.val
  exact ⟨_, _, _, rfl, rfl⟩
set_option maxRecDepth 100000 in
theorem restB_out {n : Nat} {vs : List Vt} {s : Int} {i : Nat} (h : bitAt s i = false) : restB n vs s i = true := allN_t fun j _ => by simp [restC, h]

set_option maxRecDepth 100000 in
/-- A cell of the matrix is written whose row is known. -/
theorem Mat.set {w : World} {B g n b m c : Nat} {us : Nat → Value} {rows : Nat → List Int} (h : Mat w B g n us rows) {i j : Nat} {x : Int} (hi : i < n) (hx : (rows i)[j]? = some x) (hu : us i = .slice (some ⟨b, 0, none⟩) m c) (y : Int) :
    Mat (w.setCell ⟨b, j, none⟩ (.int .i64 y)) B g n us (fun o => if o = i then (rows i).set j y else rows o) := by
  obtain ⟨b', c', hv, _, _, _, _, hM⟩ := h.cell hi hx
  rw [hu] at hv
  injection hv with hv
  injection hv with hv
  injection hv with hv
  subst hv
  exact hM y

def fw1 (M : Nat → Nat → Int) (k a b : Nat) : Nat → Nat → Int := fun x y => if x = a ∧ y = b ∧ a ≠ b then max (M a b) (min (M a k) (M k b)) else M x y
def fwB (M : Nat → Nat → Int) (k a : Nat) : Nat → Nat → Nat → Int
  | 0 => M
  | m + 1 => fw1 (fwB M k a m) k a m
def fwA (n : Nat) (M : Nat → Nat → Int) (k : Nat) : Nat → Nat → Nat → Int
  | 0 => M
  | i + 1 => fwB (fwA n M k i) k i n
def fwK (n : Nat) (M : Nat → Nat → Int) : Nat → Nat → Nat → Int
  | 0 => M
  | k + 1 => fwA n (fwK n M k) k n
def fw0 (vs : List Vt) (a b : Nat) : Int := if bt vs a b then pairV vs a b else 0
def pthV (n : Nat) (vs : List Vt) : Nat → Nat → Int := fwK n (fw0 vs) n
def pthO (sz : Int) (vs : List Vt) : List (List Int) := if profOk sz vs then tabL sz.toNat (pthV sz.toNat vs) else []
set_option maxRecDepth 100000 in
theorem pthO_bd (sz : Int) (vs : List Vt) : (pthO sz vs).length ≤ 1000 ∧ ∀ x ∈ pthO sz vs, x.length ≤ 100 := by
  unfold pthO
  cases h0 : profOk sz vs
  · simp
  · obtain ⟨n, rfl, n1, n2⟩ := prof_nat h0
    simpa using tabL_bd n2
set_option maxRecDepth 100000 in
theorem fw1_same (M : Nat → Nat → Int) (k a : Nat) : fw1 M k a a = M := by
  funext x y; unfold fw1; rw [if_neg (fun h => h.2.2 rfl)]
set_option maxRecDepth 100000 in
theorem fw1_row {n : Nat} (M : Nat → Nat → Int) {k a b : Nat} (hne : a ≠ b) (o : Nat) :
    (if o = a then (rowL n (M a)).set b (max (M a b) (min (M a k) (M k b))) else rowL n (M o)) = rowL n (fw1 M k a b o) := by
  by_cases e : o = a
  · subst e
    rw [if_pos rfl]
    refine rowL_set (fun j _ => ?_)
    unfold fw1
    by_cases e2 : j = b
    · subst e2; rw [if_pos ⟨rfl, rfl, hne⟩, if_pos rfl]
    · rw [if_neg (fun h => e2 h.2.1), if_neg e2]
  · rw [if_neg e]
    refine rowL_congr (fun j _ => ?_)
    unfold fw1
    rw [if_neg (fun h => e h.1)]

end Go.Proofs.Ythiojkpoeejkaaa
