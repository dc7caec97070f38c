/- The statements' own helpers on profiles: measured and copied. -/
import Derived.Test.YtacmabdeocmheaaVotes
namespace Go.Proofs.Ytacmabdeocmheaa
open Go.RowKit

def szN (n left : Int) : Int := if left - n < 0 then -1 else left - n

set_option maxRecDepth 100000 in
set_option maxHeartbeats 1000000 in
theorem szIS (w : World) (a : Option Addr) (n c : Nat) (left : Int) (hn : n ≤ maxLen) (h0 : 0 ≤ left) (h1 : left ≤ 2000000) :
    Calls Try.prog 264 #[.slice a n c, .int .i64 left] w fun e w' => e = .returned (.int .i64 (szN n left)) ∧ Ext w w' := by
  unfold maxLen at hn
  by_cases h : left - n < 0
  all_goals
    go_enter Try.func264, Try.ntmps264
    go_wp2
    go_ret
    exact ⟨ret_int (by unfold szN; first | rw [if_pos (by omega)] | rw [if_neg (by omega)]), Ext.refl _⟩

set_option maxRecDepth 100000 in
theorem szN_bd {n left : Int} (h0 : 0 ≤ left) (hn : 0 ≤ n) : (szN n left < 0 ∧ szN n left = -1) ∨ (0 ≤ szN n left ∧ szN n left ≤ left ∧ n ≤ left ∧ szN n left = left - n) := by
  unfold szN; split <;> omega

set_option maxRecDepth 100000 in
set_option maxHeartbeats 1000000 in
theorem szV1 (w : World) (a : Option Addr) (n c : Nat) (x left : Int) (hn : n ≤ maxLen) (h0 : 0 ≤ left) (h1 : left ≤ 2000000) :
    Calls Try.prog 228 #[.agg #[.slice a n c, .int .i64 x], .int .i64 left] w fun e w' => e = .returned (.int .i64 (szN n left)) ∧ Ext w w' := by
  by_cases h : szN n left < 0
  all_goals
    go_enter Try.func228, Try.ntmps228
    go_wp2_with (go_at_call 264; refine (szIS _ _ _ _ _ hn h0 h1).mono ?_; rintro e w1 ⟨rfl, hw1⟩; have hc1 := hw1.cellS; have hf1 := hw1.frozenS)
    go_ret
    exact ⟨ret_int (by unfold szN at *; first | rfl | (split at * <;> omega)), (by repeat (first | exact Ext.refl _ | assumption | refine Ext.alloc ?_ _ | refine Ext.drew ?_ | refine Ext.trans ?_ (by assumption)))⟩

def SzOk (left : Int) (vs : List Vt) (r : Int) : Prop := r < 0 ∨ (r ≤ left ∧ vs.length ≤ left ∧ ∀ x ∈ vs, (x.1.length : Int) ≤ left)

set_option maxRecDepth 100000 in
set_option maxHeartbeats 2000000 in
theorem szVS (w : World) (a : Option Addr) (c : Nat) (vs : List Vt) (left : Int) (hR : RdV w a vs) (hl : vs.length ≤ maxLen) (hm : ∀ x ∈ vs, x.1.length ≤ maxLen) (h0 : 0 ≤ left) (h1 : left ≤ 2000000) :
    Calls Try.prog 121 #[.slice a vs.length c, .int .i64 left] w fun e w' => ∃ r : Int, e = .returned (.int .i64 r) ∧ Ext w w' ∧ SzOk left vs r := by
  have HM := hide hm
  clear hm
  have hl' := hl
  unfold maxLen at hl'
  by_cases h : left - vs.length < 0
  · go_enter Try.func121, Try.ntmps121
    go_wp2
    go_ret
    exact ⟨_, rfl, (by repeat (first | exact Ext.refl _ | assumption | refine Ext.alloc ?_ _ | refine Ext.drew ?_ | refine Ext.trans ?_ (by assumption))), .inl (by omega)⟩
  · go_enter Try.func121, Try.ntmps121
    go_wp2_with fail
    go_loopw [1, 5] (fun m i wr => ∃ (k : Nat) (cur : Int), k ≤ vs.length ∧ i = .int .i64 k ∧ m = .int .i64 cur ∧ 0 ≤ cur ∧ cur ≤ left ∧ Hid (∀ x ∈ vs.take k, (x.1.length : Int) ≤ left) ∧ Ext w wr) (fun _ i _ => vs.length - (intOf i).toNat)
    case atStart => exact ⟨0, _, Nat.zero_le _, rfl, rfl, by omega, by omega, by intro x hx; simp at hx, (by repeat (first | exact Ext.refl _ | assumption | refine Ext.alloc ?_ _ | refine Ext.drew ?_ | refine Ext.trans ?_ (by assumption)))⟩
    case round =>
      obtain ⟨k, cur, hk, rfl, rfl, b0, b1, hall, hwr⟩ := hrel
      by_cases hlt : k < vs.length
      · obtain ⟨x, hx⟩ := at_of_lt hlt
        obtain ⟨b, off, a', c', rfl, c0, c1, hc', hRx⟩ := (hR.ext hwr).at_ hx
        have hxl := HM.out x (List.mem_of_getElem? hx)
        have HX := hide hx
        clear hx
        rcases szN_bd b0 (Int.natCast_nonneg x.1.length) with ⟨s0, s1⟩ | ⟨s0, s1, s2, s3⟩
        · go_wp2_with (go_at_call 228; refine (szV1 _ _ _ _ _ _ hxl b0 (by omega)).mono ?_; rintro e w1 ⟨rfl, hw1⟩)
          go_ret
          exact ⟨_, rfl, (by repeat (first | exact Ext.refl _ | assumption | refine Ext.alloc ?_ _ | refine Ext.drew ?_ | refine Ext.trans ?_ (by assumption))), .inl (by omega)⟩
        · go_wp2_with (go_at_call 228; refine (szV1 _ _ _ _ _ _ hxl b0 (by omega)).mono ?_; rintro e w1 ⟨rfl, hw1⟩)
          refine ⟨⟨k + 1, _, by omega, by go_num, rfl, by omega, by omega, ?_, (by repeat (first | exact Ext.refl _ | assumption | refine Ext.alloc ?_ _ | refine Ext.drew ?_ | refine Ext.trans ?_ (by assumption)))⟩, by simp [intOf]; omega⟩
          intro y hy
          rw [take_at HX.out, List.mem_append, List.mem_singleton] at hy
          rcases hy with hy | rfl
          · exact hall.out y hy
          · omega
      · go_wp2
        go_ret
        refine ⟨_, rfl, (by repeat (first | exact Ext.refl _ | assumption | refine Ext.alloc ?_ _ | refine Ext.drew ?_ | refine Ext.trans ?_ (by assumption))), .inr ⟨by omega, by omega, ?_⟩⟩
        have h := hall.out
        rwa [List.take_of_length_le (by omega)] at h

set_option maxRecDepth 100000 in
set_option maxHeartbeats 1000000 in
theorem szP (w : World) (sz : Int) (a : Option Addr) (c : Nat) (vs : List Vt) (left : Int) (hR : RdV w a vs) (hl : vs.length ≤ maxLen) (hm : ∀ x ∈ vs, x.1.length ≤ maxLen) (h0 : 0 ≤ left) (h1 : left ≤ 2000000) :
    Calls Try.prog 21 #[.agg #[.int .i64 sz, .slice a vs.length c], .int .i64 left] w fun e w' => ∃ r : Int, e = .returned (.int .i64 r) ∧ Ext w w' ∧ SzOk left vs r := by
  go_enter Try.func21, Try.ntmps21
  go_wp2_with fail
  refine (szVS _ _ _ _ _ (hR.ext (by repeat (first | exact Ext.refl _ | assumption | refine Ext.alloc ?_ _ | refine Ext.drew ?_ | refine Ext.trans ?_ (by assumption)))) hl hm h0 h1).mono ?_
  rintro e w1 ⟨r, rfl, hw1, hr⟩
  by_cases h : r < 0
  · go_wp2
    go_ret
    exact ⟨_, rfl, (by repeat (first | exact Ext.refl _ | assumption | refine Ext.alloc ?_ _ | refine Ext.drew ?_ | refine Ext.trans ?_ (by assumption))), .inl (by omega)⟩
  · go_wp2
    go_ret
    exact ⟨_, rfl, (by repeat (first | exact Ext.refl _ | assumption | refine Ext.alloc ?_ _ | refine Ext.drew ?_ | refine Ext.trans ?_ (by assumption))), hr⟩

set_option maxRecDepth 100000 in
theorem BlkF.rdI {w : World} {g n : Nat} {f : Nat → Value} {xs : List Int} (hB : BlkF w g n f) (hn : xs.length ≤ n) (hf : ∀ j x, xs[j]? = some x → f j = .int .i64 x) : RdI w (some ⟨g, 0, none⟩) xs := fun _ => by
  refine ⟨g, 0, rfl, fun j x hx => ?_⟩
  have := lt_of_at hx
  rw [Nat.zero_add, hB.cell _ (by omega), hf j x hx]

set_option maxRecDepth 100000 in
set_option maxHeartbeats 1000000 in
theorem toIS (w : World) (a : Option Addr) (c : Nat) (xs : List Int) (hR : RdI w a xs) (hl : xs.length ≤ 1048576) :
    Calls Try.prog 265 #[.slice a xs.length c] w fun e w' => ∃ g f, e = .returned (.slice (some ⟨g, 0, none⟩) xs.length xs.length) ∧ w.heap.size ≤ g ∧
      BlkF w' g xs.length f ∧ (∀ j x, xs[j]? = some x → f j = .int .i64 x) ∧ Ext w w' := by
  obtain ⟨i0, hi, hz0, hz1, hz2⟩ := info_parts info_int
  have hmk := fun W => run_make_rowN (P := Try.prog) 50 3 i0 _ Try.underlying50 hi hz0 .i64 .i64 xs.length xs.length (Nat.le_refl _) (by rw [hz2]; omega) (by omega) W
  rw [hz1, Nat.mul_one] at hmk
  go_enter Try.func265, Try.ntmps265
  go_wp2_with fail
  go_loopw [4] (fun i wr => ∃ (k : Nat) (f : Nat → Value), k ≤ xs.length ∧ i = .int .i64 k ∧ BlkF wr w.heap.size xs.length f ∧ (∀ j x, j < k → xs[j]? = some x → f j = .int .i64 x) ∧ Ext w wr) (fun i _ => xs.length - (intOf i).toNat)
  case atStart => exact ⟨0, _, Nat.zero_le _, rfl, by have h := BlkF.new w (madeCells (Value.int .i64 0).cells xs.length) 3; rwa [size_madeCells] at h, fun j x h => absurd h (by omega), (by repeat (first | exact Ext.refl _ | assumption | refine Ext.alloc ?_ _ | refine Ext.drew ?_ | refine Ext.trans ?_ (by assumption)))⟩
  case round =>
    obtain ⟨k, f, hk, rfl, hB, hf, hwr⟩ := hrel
    by_cases hlt : k < xs.length
    · obtain ⟨x, hx⟩ := at_of_lt hlt
      obtain ⟨b, off, rfl, c0⟩ := (hR.ext hwr).at_ hx
      have HF := hide hf
      clear hf
      have d0 := hB.cell k (by omega)
      have f0 := hB.fr k
      go_wp2
      refine ⟨⟨k + 1, _, by omega, by go_num, hB.set k (by omega) _, fun j y hj hy => ?_, hwr.setCell (Nat.le_refl _) _⟩, by simp [intOf]; omega⟩
      by_cases e : j = k
      · subst e
        rw [hx] at hy
        injection hy with hy
        subst hy
        rw [if_pos rfl]
      · rw [if_neg e]; exact HF.out j y (by omega) hy
    · go_wp2
      go_ret
      exact ⟨_, f, rfl, Nat.le_refl _, hB, fun j x hx => hf j x (by have := lt_of_at hx; omega) hx, hwr⟩

set_option maxRecDepth 100000 in
set_option maxHeartbeats 1000000 in
theorem toV1 (w : World) (a : Option Addr) (c : Nat) (xs : List Int) (y : Int) (hR : RdI w a xs) (hl : xs.length ≤ 1048576) :
    Calls Try.prog 230 #[.agg #[.slice a xs.length c, .int .i64 y]] w fun e w' => ∃ g f, e = .returned (.agg #[.slice (some ⟨g, 0, none⟩) xs.length xs.length, .int .i64 y]) ∧ w.heap.size ≤ g ∧
      BlkF w' g xs.length f ∧ (∀ j x, xs[j]? = some x → f j = .int .i64 x) ∧ Ext w w' := by
  have q1 := new1 w (.slice a xs.length c) (.int .i64 y) [] 156
  go_enter Try.func230, Try.ntmps230
  go_wp2_with fail
  refine (toIS _ _ _ _ (hR.ext (by repeat (first | exact Ext.refl _ | assumption | refine Ext.alloc ?_ _ | refine Ext.drew ?_ | refine Ext.trans ?_ (by assumption)))) hl).mono ?_
  rintro e w1 ⟨g, f, rfl, hg, hB, hf, hw1⟩
  have q1 := Ext.keep (w' := w1) (by repeat (first | exact Ext.refl _ | assumption | refine Ext.alloc ?_ _ | refine Ext.drew ?_ | refine Ext.trans ?_ (by assumption))) q1
  have p0 := hw1.keep (p := ⟨w.heap.size + 1 + 1, 0, none⟩) (v := .slice none 0 0) (by go_simp)
  have p1 := hw1.keep (p := ⟨w.heap.size + 1 + 1, 1, none⟩) (v := .int .i64 0) (by go_simp)
  have p2 := hw1.keep (p := ⟨w.heap.size + 1, 0, none⟩) (v := .slice none 0 0) (by go_simp)
  have p3 := hw1.keep (p := ⟨w.heap.size + 1, 1, none⟩) (v := .int .i64 0) (by go_simp)
  have z0 : w1.frozen? ⟨w.heap.size + 1 + 1, 0, none⟩ = false := (hw1.frozenS _ (by go_simp)).trans (by go_simp)
  have z1 : w1.frozen? ⟨w.heap.size + 1 + 1, 1, none⟩ = false := (hw1.frozenS _ (by go_simp)).trans (by go_simp)
  have z2 : w1.frozen? ⟨w.heap.size + 1, 0, none⟩ = false := (hw1.frozenS _ (by go_simp)).trans (by go_simp)
  have z3 : w1.frozen? ⟨w.heap.size + 1, 1, none⟩ = false := (hw1.frozenS _ (by go_simp)).trans (by go_simp)
  have HF := hide hf
  clear hf
  go_wp2
  refine bodyPost_ret (v := .agg #[.slice (some ⟨g, 0, none⟩) xs.length xs.length, .int .i64 y]) (by simp [results, Try.results230, go_sem, p2, p3]) rfl ⟨g, f, rfl, ?_, ?_, HF.out, ?_⟩
  · simp at hg
    omega
  · simp at hg
    exact (((hB.far (by simp; omega) _).far (by simp; omega) _).far (by simp; omega) _).far (by simp; omega) _
  · exact ((((hw1.a.a.a : Ext w w1).setCell (by simp; omega) _).setCell (by simp; omega) _).setCell (by simp) _).setCell (by simp) _

/-- The slice a is the call's own copy of the votes: its blocks lie from lo on and below hi, and may be written. -/
def OwnV (w : World) (lo hi : Nat) (g : Nat) (vs : List Vt) (k : Nat) : Prop := ∃ (f : Nat → Value) (h : Nat → Nat), lo ≤ g ∧ g < hi ∧ BlkF w g (vs.length * 2) f ∧
  ∀ j x, j < k → vs[j]? = some x → f (j * 2) = .slice (some ⟨h j, 0, none⟩) x.1.length x.1.length ∧ f (j * 2 + 1) = .int .i64 x.2 ∧ g < h j ∧ h j < hi ∧
    (∀ i, i < j → h i < h j) ∧ ∃ fi, BlkF w (h j) x.1.length fi ∧ ∀ i y, x.1[i]? = some y → fi i = .int .i64 y
set_option maxRecDepth 100000 in
theorem OwnV.ext {w w' : World} {lo hi g k : Nat} {vs : List Vt} (h : OwnV w lo hi g vs k) (hw : Ext w w') : OwnV w' lo hi g vs k := by
  obtain ⟨f, h, h1, h2, hB, hj⟩ := h
  refine ⟨f, h, h1, h2, hB.ext hw, fun j x hk hx => ?_⟩
  obtain ⟨a0, a1, a2, a3, a4, fi, a5, a6⟩ := hj j x hk hx
  exact ⟨a0, a1, a2, a3, a4, fi, a5.ext hw, a6⟩
set_option maxRecDepth 100000 in
theorem OwnV.rd {w : World} {lo hi g : Nat} {vs : List Vt} (h : OwnV w lo hi g vs vs.length) : RdV w (some ⟨g, 0, none⟩) vs := fun _ => by
  obtain ⟨f, h, h1, h2, hB, hj⟩ := h
  refine ⟨g, 0, rfl, fun j x hx => ?_⟩
  have hl := lt_of_at hx
  obtain ⟨a0, a1, a2, a3, a4, fi, a5, a6⟩ := hj j x hl hx
  refine ⟨_, _, ?_, ?_, Nat.le_refl _, a5.rdI (Nat.le_refl _) a6⟩
  · rw [Nat.zero_add, hB.cell _ (by omega), a0]
  · rw [Nat.zero_add, hB.cell _ (by omega), a1]
set_option maxRecDepth 100000 in
/-- One more vote has been copied into its place. -/
theorem OwnV.put {w : World} {lo hi hi' g k : Nat} {vs : List Vt} {x : Vt} (h : OwnV w lo hi g vs k) (hx : vs[k]? = some x) (gk : Nat) (fk : Nat → Value) (hg : hi ≤ gk) (hg' : gk < hi') (hB : BlkF w gk x.1.length fk)
    (hf : ∀ i y, x.1[i]? = some y → fk i = .int .i64 y) :
    OwnV ((w.setCell ⟨g, k * 2, none⟩ (.slice (some ⟨gk, 0, none⟩) x.1.length x.1.length)).setCell ⟨g, k * 2 + 1, none⟩ (.int .i64 x.2)) lo hi' g vs (k + 1) := by
  obtain ⟨f, h, h1, h2, hB0, hj⟩ := h
  have hl := lt_of_at hx
  obtain ⟨h', hh'⟩ : ∃ h' : Nat → Nat, h' = fun j => if j = k then gk else h j := ⟨_, rfl⟩
  have e1 : h' k = gk := by rw [hh']; simp
  have e2 : ∀ j, j ≠ k → h' j = h j := fun j hj => by rw [hh']; simp [hj]
  refine ⟨_, h', h1, by omega, (hB0.set (k * 2) (by omega) _).set (k * 2 + 1) (by omega) _, fun j y hk hy => ?_⟩
  by_cases e : j = k
  · subst e
    rw [hx] at hy
    injection hy with hy
    subst hy
    rw [e1]
    refine ⟨?_, ?_, by omega, hg', ?_, fk, (hB.far (by simp; omega) _).far (by simp; omega) _, hf⟩
    · rw [if_neg (by omega), if_pos rfl]
    · rw [if_pos rfl]
    · intro i hi
      rw [e2 i (by omega)]
      obtain ⟨z, hz⟩ := at_of_lt (xs := vs) (k := i) (by omega)
      have := (hj i z hi hz).2.2.2.1
      omega
  · obtain ⟨a0, a1, a2, a3, a4, fi, a5, a6⟩ := hj j y (by omega) hy
    rw [e2 j e]
    refine ⟨?_, ?_, a2, by omega, ?_, fi, (a5.far (by simp; omega) _).far (by simp; omega) _, a6⟩
    · rw [if_neg (by omega), if_neg (by omega)]; exact a0
    · rw [if_neg (by omega), if_neg (by omega)]; exact a1
    · intro i hi
      rw [e2 i (by omega)]
      exact a4 i hi

set_option maxRecDepth 100000 in
theorem info_v : (Try.prog.info? 138).map (fun i => (i.zero, i.size, i.bytes)) = some (some (.agg #[.slice none 0 0, .int .i64 0]), 2, 32) := by kernel_rfl
set_option maxRecDepth 100000 in
set_option maxHeartbeats 2000000 in
theorem toVS (w : World) (a : Option Addr) (c : Nat) (vs : List Vt) (hR : RdV w a vs) (hl : vs.length ≤ 1048576) (hm : ∀ x ∈ vs, x.1.length ≤ 1048576) :
    Calls Try.prog 125 #[.slice a vs.length c] w fun e w' => ∃ g, e = .returned (.slice (some ⟨g, 0, none⟩) vs.length vs.length) ∧ OwnV w' w.heap.size w'.heap.size g vs vs.length ∧ Ext w w' := by
  obtain ⟨i0, hi, hz0, hz1, hz2⟩ := info_parts info_v
  have hmk := fun W => run_make_rowN (P := Try.prog) 41 138 i0 _ Try.underlying41 hi hz0 .i64 .i64 vs.length vs.length (Nat.le_refl _) (by rw [hz2]; omega) (by omega) W
  rw [hz1] at hmk
  have HM := hide hm
  clear hm
  go_enter Try.func125, Try.ntmps125
  go_wp2_with fail
  go_loopw [4] (fun i wr => ∃ (k : Nat), k ≤ vs.length ∧ i = .int .i64 k ∧ OwnV wr w.heap.size wr.heap.size w.heap.size vs k ∧ Ext w wr) (fun i _ => vs.length - (intOf i).toNat)
  case atStart => exact ⟨0, Nat.zero_le _, rfl, ⟨_, fun _ => 0, Nat.le_refl _, by simp, by have h := BlkF.new w (madeCells #[.slice none 0 0, .int .i64 0] (vs.length * 2)) 138; rwa [size_madeCells] at h, fun j x h => absurd h (by omega)⟩, (by repeat (first | exact Ext.refl _ | assumption | refine Ext.alloc ?_ _ | refine Ext.drew ?_ | refine Ext.trans ?_ (by assumption)))⟩
  case round =>
    obtain ⟨k, hk, rfl, hO, hwr⟩ := hrel
    by_cases hlt : k < vs.length
    · obtain ⟨x, hx⟩ := at_of_lt hlt
      obtain ⟨b, off, a', c', rfl, c0, c1, hc', hRx⟩ := (hR.ext hwr).at_ hx
      have hxl := HM.out x (List.mem_of_getElem? hx)
      have HX := hide hx
      clear hx
      have HO := hide hO
      clear hO
      go_wp2_with fail
      refine (toV1 _ _ _ _ _ (hRx.ext (by repeat (first | exact Ext.refl _ | assumption | refine Ext.alloc ?_ _ | refine Ext.drew ?_ | refine Ext.trans ?_ (by assumption)))) hxl).mono ?_
      rintro e w1 ⟨gk, fk, rfl, hgk, hBk, hfk, hw1⟩
      have hO1 := HO.out.ext hw1
      have HFK := hide hfk
      clear hfk
      have hO2 := hide hO1
      obtain ⟨f, h, hlo, hhi, hB, hj⟩ := hO1
      clear hj
      have d0 := hB.cell (k * 2) (by omega)
      have d1 := hB.cell (k * 2 + 1) (by omega)
      have f0 := hB.fr (k * 2)
      have f1 := hB.fr (k * 2 + 1)
      go_wp2
      refine ⟨⟨k + 1, by omega, by go_num, ?_, ((hwr.trans hw1).setCell (Nat.le_refl _) _).setCell (Nat.le_refl _) _⟩, by simp [intOf]; omega⟩
      exact hO2.out.put HX.out gk fk hgk (by simpa [World.setCell] using hBk.lt) hBk HFK.out
    · obtain rfl : k = vs.length := by omega
      go_wp2
      go_ret
      exact ⟨_, rfl, hO, hwr⟩

end Go.Proofs.Ytacmabdeocmheaa
