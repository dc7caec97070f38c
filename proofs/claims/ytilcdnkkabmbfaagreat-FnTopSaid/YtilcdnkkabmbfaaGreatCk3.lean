/- The statements' own helpers on profiles: measured and copied. Lists of integers as the statements' helpers meet them: compared, marked, held. Lists of integers that may be written. Profiles compared whole, and overwritten by marks. -/
import Derived.Test.YtilcdnkkabmbfaaGreatCk2
import Derived.Test.YtilcdnkkabmbfaaGreatCk1
namespace Go.Proofs.YtilcdnkkabmbfaaGreat
open Go.RowKit

def szN (n left : Int) : Int := if left - n < 0 then -1 else left - n

set_option maxRecDepth 100000 in
set_option maxHeartbeats 1000000 in
theorem szIS (w : World) (a : Option Addr) (n c : Nat) (left : Int) (hn : n ≤ maxLen) (h0 : 0 ≤ left) (h1 : left ≤ 2000000) :
    Calls Tryz.prog 126 #[.slice a n c, .int .i64 left] w fun e w' => e = .returned (.int .i64 (szN n left)) ∧ Ext w w' := by
  unfold maxLen at hn
  by_cases h : left - n < 0
  all_goals
    go_enter Tryz.func126, Tryz.ntmps126
    go_wp2
    go_ret
    exact ⟨ret_int (by unfold szN; first | rw [if_pos (by omega)] | rw [if_neg (by omega)]), Ext.refl _⟩

set_option maxRecDepth 100000 in
theorem szN_bd {n left : Int} (h0 : 0 ≤ left) (hn : 0 ≤ n) : (szN n left < 0 ∧ szN n left = -1) ∨ (0 ≤ szN n left ∧ szN n left ≤ left ∧ n ≤ left ∧ szN n left = left - n) := by
  unfold szN; split <;> omega

set_option maxRecDepth 100000 in
set_option maxHeartbeats 1000000 in
theorem szV1 (w : World) (a : Option Addr) (n c : Nat) (x left : Int) (hn : n ≤ maxLen) (h0 : 0 ≤ left) (h1 : left ≤ 2000000) :
    Calls Tryz.prog 67 #[.agg #[.slice a n c, .int .i64 x], .int .i64 left] w fun e w' => e = .returned (.int .i64 (szN n left)) ∧ Ext w w' := by
  by_cases h : szN n left < 0
  all_goals
    go_enter Tryz.func67, Tryz.ntmps67
    go_wp2_with (go_at_call 126; refine (szIS _ _ _ _ _ hn h0 h1).mono ?_; rintro e w1 ⟨rfl, hw1⟩; have hc1 := hw1.cellS; have hf1 := hw1.frozenS)
    go_ret
    exact ⟨ret_int (by unfold szN at *; first | rfl | (split at * <;> omega)), (by repeat (first | exact Ext.refl _ | assumption | refine Ext.alloc ?_ _ | refine Ext.drew ?_ | refine Ext.trans ?_ (by assumption)))⟩

def SzOk (left : Int) (vs : List Vt) (r : Int) : Prop := r < 0 ∨ (r ≤ left ∧ vs.length ≤ left ∧ ∀ x ∈ vs, (x.1.length : Int) ≤ left)

set_option maxRecDepth 100000 in
set_option maxHeartbeats 2000000 in
theorem szVS (w : World) (a : Option Addr) (c : Nat) (vs : List Vt) (left : Int) (hR : RdV w a vs) (hl : vs.length ≤ maxLen) (hm : ∀ x ∈ vs, x.1.length ≤ maxLen) (h0 : 0 ≤ left) (h1 : left ≤ 2000000) :
    Calls Tryz.prog 27 #[.slice a vs.length c, .int .i64 left] w fun e w' => ∃ r : Int, e = .returned (.int .i64 r) ∧ Ext w w' ∧ SzOk left vs r := by
  have HM := hide hm
  clear hm
  have hl' := hl
  unfold maxLen at hl'
  by_cases h : left - vs.length < 0
  · go_enter Tryz.func27, Tryz.ntmps27
    go_wp2
    go_ret
    exact ⟨_, rfl, (by repeat (first | exact Ext.refl _ | assumption | refine Ext.alloc ?_ _ | refine Ext.drew ?_ | refine Ext.trans ?_ (by assumption))), .inl (by omega)⟩
  · go_enter Tryz.func27, Tryz.ntmps27
    go_wp2_with fail
    go_loopw [1, 5] (fun m i wr => ∃ (k : Nat) (cur : Int), k ≤ vs.length ∧ i = .int .i64 k ∧ m = .int .i64 cur ∧ 0 ≤ cur ∧ cur ≤ left ∧ Hid (∀ x ∈ vs.take k, (x.1.length : Int) ≤ left) ∧ Ext w wr) (fun _ i _ => vs.length - (intOf i).toNat)
    case atStart => exact ⟨0, _, Nat.zero_le _, rfl, rfl, by omega, by omega, by intro x hx; simp at hx, (by repeat (first | exact Ext.refl _ | assumption | refine Ext.alloc ?_ _ | refine Ext.drew ?_ | refine Ext.trans ?_ (by assumption)))⟩
    case round =>
      obtain ⟨k, cur, hk, rfl, rfl, b0, b1, hall, hwr⟩ := hrel
      by_cases hlt : k < vs.length
      · obtain ⟨x, hx⟩ := at_of_lt hlt
        obtain ⟨b, off, a', c', rfl, c0, c1, hc', hRx⟩ := (hR.ext hwr).at_ hx
        have hxl := HM.out x (List.mem_of_getElem? hx)
        have HX := hide hx
        clear hx
        rcases szN_bd b0 (Int.natCast_nonneg x.1.length) with ⟨s0, s1⟩ | ⟨s0, s1, s2, s3⟩
        · go_wp2_with (go_at_call 67; refine (szV1 _ _ _ _ _ _ hxl b0 (by omega)).mono ?_; rintro e w1 ⟨rfl, hw1⟩)
          go_ret
          exact ⟨_, rfl, (by repeat (first | exact Ext.refl _ | assumption | refine Ext.alloc ?_ _ | refine Ext.drew ?_ | refine Ext.trans ?_ (by assumption))), .inl (by omega)⟩
        · go_wp2_with (go_at_call 67; refine (szV1 _ _ _ _ _ _ hxl b0 (by omega)).mono ?_; rintro e w1 ⟨rfl, hw1⟩)
          refine ⟨⟨k + 1, _, by omega, by go_num, rfl, by omega, by omega, ?_, (by repeat (first | exact Ext.refl _ | assumption | refine Ext.alloc ?_ _ | refine Ext.drew ?_ | refine Ext.trans ?_ (by assumption)))⟩, by simp [intOf]; omega⟩
          intro y hy
          rw [take_at HX.out, List.mem_append, List.mem_singleton] at hy
          rcases hy with hy | rfl
          · exact hall.out y hy
          · omega
      · go_wp2
        go_ret
        refine ⟨_, rfl, (by repeat (first | exact Ext.refl _ | assumption | refine Ext.alloc ?_ _ | refine Ext.drew ?_ | refine Ext.trans ?_ (by assumption))), .inr ⟨by omega, by omega, ?_⟩⟩
        have h := hall.out
        rwa [List.take_of_length_le (by omega)] at h

set_option maxRecDepth 100000 in
set_option maxHeartbeats 1000000 in
theorem szP (w : World) (sz : Int) (a : Option Addr) (c : Nat) (vs : List Vt) (left : Int) (hR : RdV w a vs) (hl : vs.length ≤ maxLen) (hm : ∀ x ∈ vs, x.1.length ≤ maxLen) (h0 : 0 ≤ left) (h1 : left ≤ 2000000) :
    Calls Tryz.prog 7 #[.agg #[.int .i64 sz, .slice a vs.length c], .int .i64 left] w fun e w' => ∃ r : Int, e = .returned (.int .i64 r) ∧ Ext w w' ∧ SzOk left vs r := by
  go_enter Tryz.func7, Tryz.ntmps7
  go_wp2_with fail
  refine (szVS _ _ _ _ _ (hR.ext (by repeat (first | exact Ext.refl _ | assumption | refine Ext.alloc ?_ _ | refine Ext.drew ?_ | refine Ext.trans ?_ (by assumption)))) hl hm h0 h1).mono ?_
  rintro e w1 ⟨r, rfl, hw1, hr⟩
  by_cases h : r < 0
  · go_wp2
    go_ret
    exact ⟨_, rfl, (by repeat (first | exact Ext.refl _ | assumption | refine Ext.alloc ?_ _ | refine Ext.drew ?_ | refine Ext.trans ?_ (by assumption))), .inl (by omega)⟩
  · go_wp2
    go_ret
    exact ⟨_, rfl, (by repeat (first | exact Ext.refl _ | assumption | refine Ext.alloc ?_ _ | refine Ext.drew ?_ | refine Ext.trans ?_ (by assumption))), hr⟩

set_option maxRecDepth 100000 in
theorem BlkF.rdI {w : World} {g n : Nat} {f : Nat → Value} {xs : List Int} (hB : BlkF w g n f) (hn : xs.length ≤ n) (hf : ∀ j x, xs[j]? = some x → f j = .int .i64 x) : RdI w (some ⟨g, 0, none⟩) xs := fun _ => by
  refine ⟨g, 0, rfl, fun j x hx => ?_⟩
  have := lt_of_at hx
  rw [Nat.zero_add, hB.cell _ (by omega), hf j x hx]

set_option maxRecDepth 100000 in
set_option maxHeartbeats 1000000 in
theorem toIS (w : World) (a : Option Addr) (c : Nat) (xs : List Int) (hR : RdI w a xs) (hl : xs.length ≤ 1048576) :
    Calls Tryz.prog 132 #[.slice a xs.length c] w fun e w' => ∃ g f, e = .returned (.slice (some ⟨g, 0, none⟩) xs.length xs.length) ∧ w.heap.size ≤ g ∧
      BlkF w' g xs.length f ∧ (∀ j x, xs[j]? = some x → f j = .int .i64 x) ∧ Ext w w' := by
  obtain ⟨i0, hi, hz0, hz1, hz2⟩ := info_parts info_int
  have hmk := fun W => run_make_rowN (P := Tryz.prog) 36 3 i0 _ Tryz.underlying36 hi hz0 .i64 .i64 xs.length xs.length (Nat.le_refl _) (by rw [hz2]; omega) (by omega) W
  rw [hz1, Nat.mul_one] at hmk
  go_enter Tryz.func132, Tryz.ntmps132
  go_wp2_with fail
  go_loopw [4] (fun i wr => ∃ (k : Nat) (f : Nat → Value), k ≤ xs.length ∧ i = .int .i64 k ∧ BlkF wr w.heap.size xs.length f ∧ (∀ j x, j < k → xs[j]? = some x → f j = .int .i64 x) ∧ Ext w wr) (fun i _ => xs.length - (intOf i).toNat)
  case atStart => exact ⟨0, _, Nat.zero_le _, rfl, by have h := BlkF.new w (madeCells (Value.int .i64 0).cells xs.length) 3; rwa [size_madeCells] at h, fun j x h => absurd h (by omega), (by repeat (first | exact Ext.refl _ | assumption | refine Ext.alloc ?_ _ | refine Ext.drew ?_ | refine Ext.trans ?_ (by assumption)))⟩
  case round =>
    obtain ⟨k, f, hk, rfl, hB, hf, hwr⟩ := hrel
    by_cases hlt : k < xs.length
    · obtain ⟨x, hx⟩ := at_of_lt hlt
      obtain ⟨b, off, rfl, c0⟩ := (hR.ext hwr).at_ hx
      have HF := hide hf
      clear hf
      have d0 := hB.cell k (by omega)
      have f0 := hB.fr k
      go_wp2
      refine ⟨⟨k + 1, _, by omega, by go_num, hB.set k (by omega) _, fun j y hj hy => ?_, hwr.setCell (Nat.le_refl _) _⟩, by simp [intOf]; omega⟩
      by_cases e : j = k
      · subst e
        rw [hx] at hy
        injection hy with hy
        subst hy
        rw [if_pos rfl]
      · rw [if_neg e]; exact HF.out j y (by omega) hy
    · go_wp2
      go_ret
      exact ⟨_, f, rfl, Nat.le_refl _, hB, fun j x hx => hf j x (by have := lt_of_at hx; omega) hx, hwr⟩

set_option maxRecDepth 100000 in
set_option maxHeartbeats 1000000 in
theorem toV1 (w : World) (a : Option Addr) (c : Nat) (xs : List Int) (y : Int) (hR : RdI w a xs) (hl : xs.length ≤ 1048576) :
    Calls Tryz.prog 73 #[.agg #[.slice a xs.length c, .int .i64 y]] w fun e w' => ∃ g f, e = .returned (.agg #[.slice (some ⟨g, 0, none⟩) xs.length xs.length, .int .i64 y]) ∧ w.heap.size ≤ g ∧
      BlkF w' g xs.length f ∧ (∀ j x, xs[j]? = some x → f j = .int .i64 x) ∧ Ext w w' := by
  have q1 := new1 w (.slice a xs.length c) (.int .i64 y) [] 74
  go_enter Tryz.func73, Tryz.ntmps73
  go_wp2_with fail
  refine (toIS _ _ _ _ (hR.ext (by repeat (first | exact Ext.refl _ | assumption | refine Ext.alloc ?_ _ | refine Ext.drew ?_ | refine Ext.trans ?_ (by assumption)))) hl).mono ?_
  rintro e w1 ⟨g, f, rfl, hg, hB, hf, hw1⟩
  have q1 := Ext.keep (w' := w1) (by repeat (first | exact Ext.refl _ | assumption | refine Ext.alloc ?_ _ | refine Ext.drew ?_ | refine Ext.trans ?_ (by assumption))) q1
  have p0 := hw1.keep (p := ⟨w.heap.size + 1 + 1, 0, none⟩) (v := .slice none 0 0) (by go_simp)
  have p1 := hw1.keep (p := ⟨w.heap.size + 1 + 1, 1, none⟩) (v := .int .i64 0) (by go_simp)
  have p2 := hw1.keep (p := ⟨w.heap.size + 1, 0, none⟩) (v := .slice none 0 0) (by go_simp)
  have p3 := hw1.keep (p := ⟨w.heap.size + 1, 1, none⟩) (v := .int .i64 0) (by go_simp)
  have z0 : w1.frozen? ⟨w.heap.size + 1 + 1, 0, none⟩ = false := (hw1.frozenS _ (by go_simp)).trans (by go_simp)
  have z1 : w1.frozen? ⟨w.heap.size + 1 + 1, 1, none⟩ = false := (hw1.frozenS _ (by go_simp)).trans (by go_simp)
  have z2 : w1.frozen? ⟨w.heap.size + 1, 0, none⟩ = false := (hw1.frozenS _ (by go_simp)).trans (by go_simp)
  have z3 : w1.frozen? ⟨w.heap.size + 1, 1, none⟩ = false := (hw1.frozenS _ (by go_simp)).trans (by go_simp)
  have HF := hide hf
  clear hf
  go_wp2
  refine bodyPost_ret (v := .agg #[.slice (some ⟨g, 0, none⟩) xs.length xs.length, .int .i64 y]) (by simp [results, Tryz.results73, go_sem, p2, p3]) rfl ⟨g, f, rfl, ?_, ?_, HF.out, ?_⟩
  · simp at hg
    omega
  · simp at hg
    exact (((hB.far (by simp; omega) _).far (by simp; omega) _).far (by simp; omega) _).far (by simp; omega) _
  · exact ((((hw1.a.a.a : Ext w w1).setCell (by simp; omega) _).setCell (by simp; omega) _).setCell (by simp) _).setCell (by simp) _

/-- The slice a is the call's own copy of the votes: its blocks lie from lo on and below hi, and may be written. -/
def OwnV (w : World) (lo hi : Nat) (g : Nat) (vs : List Vt) (k : Nat) : Prop := ∃ (f : Nat → Value) (h : Nat → Nat), lo ≤ g ∧ g < hi ∧ BlkF w g (vs.length * 2) f ∧
  ∀ j x, j < k → vs[j]? = some x → f (j * 2) = .slice (some ⟨h j, 0, none⟩) x.1.length x.1.length ∧ f (j * 2 + 1) = .int .i64 x.2 ∧ g < h j ∧ h j < hi ∧
    (∀ i, i < j → h i < h j) ∧ ∃ fi, BlkF w (h j) x.1.length fi ∧ ∀ i y, x.1[i]? = some y → fi i = .int .i64 y
set_option maxRecDepth 100000 in
theorem OwnV.ext {w w' : World} {lo hi g k : Nat} {vs : List Vt} (h : OwnV w lo hi g vs k) (hw : Ext w w') : OwnV w' lo hi g vs k := by
  obtain ⟨f, h, h1, h2, hB, hj⟩ := h
  refine ⟨f, h, h1, h2, hB.ext hw, fun j x hk hx => ?_⟩
  obtain ⟨a0, a1, a2, a3, a4, fi, a5, a6⟩ := hj j x hk hx
  exact ⟨a0, a1, a2, a3, a4, fi, a5.ext hw, a6⟩
set_option maxRecDepth 100000 in
theorem OwnV.rd {w : World} {lo hi g : Nat} {vs : List Vt} (h : OwnV w lo hi g vs vs.length) : RdV w (some ⟨g, 0, none⟩) vs := fun _ => by
  obtain ⟨f, h, h1, h2, hB, hj⟩ := h
  refine ⟨g, 0, rfl, fun j x hx => ?_⟩
  have hl := lt_of_at hx
  obtain ⟨a0, a1, a2, a3, a4, fi, a5, a6⟩ := hj j x hl hx
  refine ⟨_, _, ?_, ?_, Nat.le_refl _, a5.rdI (Nat.le_refl _) a6⟩
  · rw [Nat.zero_add, hB.cell _ (by omega), a0]
  · rw [Nat.zero_add, hB.cell _ (by omega), a1]
set_option maxRecDepth 100000 in
/-- One more vote has been copied into its place. -/
theorem OwnV.put {w : World} {lo hi hi' g k : Nat} {vs : List Vt} {x : Vt} (h : OwnV w lo hi g vs k) (hx : vs[k]? = some x) (gk : Nat) (fk : Nat → Value) (hg : hi ≤ gk) (hg' : gk < hi') (hB : BlkF w gk x.1.length fk)
    (hf : ∀ i y, x.1[i]? = some y → fk i = .int .i64 y) :
    OwnV ((w.setCell ⟨g, k * 2, none⟩ (.slice (some ⟨gk, 0, none⟩) x.1.length x.1.length)).setCell ⟨g, k * 2 + 1, none⟩ (.int .i64 x.2)) lo hi' g vs (k + 1) := by
  obtain ⟨f, h, h1, h2, hB0, hj⟩ := h
  have hl := lt_of_at hx
  obtain ⟨h', hh'⟩ : ∃ h' : Nat → Nat, h' = fun j => if j = k then gk else h j := ⟨_, rfl⟩
  have e1 : h' k = gk := by rw [hh']; simp
  have e2 : ∀ j, j ≠ k → h' j = h j := fun j hj => by rw [hh']; simp [hj]
  refine ⟨_, h', h1, by omega, (hB0.set (k * 2) (by omega) _).set (k * 2 + 1) (by omega) _, fun j y hk hy => ?_⟩
  by_cases e : j = k
  · subst e
    rw [hx] at hy
    injection hy with hy
    subst hy
    rw [e1]
    refine ⟨?_, ?_, by omega, hg', ?_, fk, (hB.far (by simp; omega) _).far (by simp; omega) _, hf⟩
    · rw [if_neg (by omega), if_pos rfl]
    · rw [if_pos rfl]
    · intro i hi
      rw [e2 i (by omega)]
      obtain ⟨z, hz⟩ := at_of_lt (xs := vs) (k := i) (by omega)
      have := (hj i z hi hz).2.2.2.1
      omega
  · obtain ⟨a0, a1, a2, a3, a4, fi, a5, a6⟩ := hj j y (by omega) hy
    rw [e2 j e]
    refine ⟨?_, ?_, a2, by omega, ?_, fi, (a5.far (by simp; omega) _).far (by simp; omega) _, a6⟩
    · rw [if_neg (by omega), if_neg (by omega)]; exact a0
    · rw [if_neg (by omega), if_neg (by omega)]; exact a1
    · intro i hi
      rw [e2 i (by omega)]
      exact a4 i hi

set_option maxRecDepth 100000 in
theorem info_v : (Tryz.prog.info? 55).map (fun i => (i.zero, i.size, i.bytes)) = some (some (.agg #[.slice none 0 0, .int .i64 0]), 2, 32) := by kernel_rfl

set_option maxRecDepth 100000 in
set_option maxHeartbeats 2000000 in
theorem toVS (w : World) (a : Option Addr) (c : Nat) (vs : List Vt) (hR : RdV w a vs) (hl : vs.length ≤ 1048576) (hm : ∀ x ∈ vs, x.1.length ≤ 1048576) :
    Calls Tryz.prog 29 #[.slice a vs.length c] w fun e w' => ∃ g, e = .returned (.slice (some ⟨g, 0, none⟩) vs.length vs.length) ∧ OwnV w' w.heap.size w'.heap.size g vs vs.length ∧ Ext w w' := by
  obtain ⟨i0, hi, hz0, hz1, hz2⟩ := info_parts info_v
  have hmk := fun W => run_make_rowN (P := Tryz.prog) 27 55 i0 _ Tryz.underlying27 hi hz0 .i64 .i64 vs.length vs.length (Nat.le_refl _) (by rw [hz2]; omega) (by omega) W
  rw [hz1] at hmk
  have HM := hide hm
  clear hm
  go_enter Tryz.func29, Tryz.ntmps29
  go_wp2_with fail
  go_loopw [4] (fun i wr => ∃ (k : Nat), k ≤ vs.length ∧ i = .int .i64 k ∧ OwnV wr w.heap.size wr.heap.size w.heap.size vs k ∧ Ext w wr) (fun i _ => vs.length - (intOf i).toNat)
  case atStart => exact ⟨0, Nat.zero_le _, rfl, ⟨_, fun _ => 0, Nat.le_refl _, by simp, by have h := BlkF.new w (madeCells #[.slice none 0 0, .int .i64 0] (vs.length * 2)) 55; rwa [size_madeCells] at h, fun j x h => absurd h (by omega)⟩, (by repeat (first | exact Ext.refl _ | assumption | refine Ext.alloc ?_ _ | refine Ext.drew ?_ | refine Ext.trans ?_ (by assumption)))⟩
  case round =>
    obtain ⟨k, hk, rfl, hO, hwr⟩ := hrel
    by_cases hlt : k < vs.length
    · obtain ⟨x, hx⟩ := at_of_lt hlt
      obtain ⟨b, off, a', c', rfl, c0, c1, hc', hRx⟩ := (hR.ext hwr).at_ hx
      have hxl := HM.out x (List.mem_of_getElem? hx)
      have HX := hide hx
      clear hx
      have HO := hide hO
      clear hO
      go_wp2_with fail
      refine (toV1 _ _ _ _ _ (hRx.ext (by repeat (first | exact Ext.refl _ | assumption | refine Ext.alloc ?_ _ | refine Ext.drew ?_ | refine Ext.trans ?_ (by assumption)))) hxl).mono ?_
      rintro e w1 ⟨gk, fk, rfl, hgk, hBk, hfk, hw1⟩
      have hO1 := HO.out.ext hw1
      have HFK := hide hfk
      clear hfk
      have hO2 := hide hO1
      obtain ⟨f, h, hlo, hhi, hB, hj⟩ := hO1
      clear hj
      have d0 := hB.cell (k * 2) (by omega)
      have d1 := hB.cell (k * 2 + 1) (by omega)
      have f0 := hB.fr (k * 2)
      have f1 := hB.fr (k * 2 + 1)
      go_wp2
      refine ⟨⟨k + 1, by omega, by go_num, ?_, ((hwr.trans hw1).setCell (Nat.le_refl _) _).setCell (Nat.le_refl _) _⟩, by simp [intOf]; omega⟩
      exact hO2.out.put HX.out gk fk hgk (by simpa [World.setCell] using hBk.lt) hBk HFK.out
    · obtain rfl : k = vs.length := by omega
      go_wp2
      go_ret
      exact ⟨_, rfl, hO, hwr⟩

set_option maxRecDepth 100000 in
set_option maxHeartbeats 1000000 in
theorem eqISn (w : World) (a1 a2 : Option Addr) (c1 c2 n : Nat) (xs ys : List Int) (hX : RdI w a1 xs) (hY : RdI w a2 ys) (hl : n ≤ 2000000) (hxn : Hid (xs.length = n)) (hyn : Hid (ys.length = n)) :
    Calls Tryz.prog 135 #[.slice a1 n c1, .slice a2 n c2] w fun e w' => e = .returned (.bool (decide (xs = ys))) ∧ Ext w w' := by
  go_enter Tryz.func135, Tryz.ntmps135
  go_wp2_with fail
  go_loopw [5] (fun i wr => ∃ k : Nat, k ≤ n ∧ i = .int .i64 k ∧ Hid (xs.take k = ys.take k) ∧ Ext w wr) (fun i _ => n - (intOf i).toNat)
  case atStart => exact ⟨0, Nat.zero_le _, rfl, rfl, Ext.refl _⟩
  case round =>
    obtain ⟨k, hk, rfl, hall, hwr⟩ := hrel
    by_cases hlt : k < n
    · obtain ⟨x, hx⟩ := at_of_lt (xs := xs) (k := k) (by rw [hxn.out]; exact hlt)
      obtain ⟨y, hy⟩ := at_of_lt (xs := ys) (k := k) (by rw [hyn.out]; exact hlt)
      obtain ⟨b, off, rfl, c0⟩ := (hX.ext hwr).at_ hx
      obtain ⟨b', off', rfl, d0⟩ := (hY.ext hwr).at_ hy
      have hx' := hide hx
      have hy' := hide hy
      clear hx hy
      cases e : (x != y)
      all_goals
        go_wp2
        refine wp_region_X (by kernel_rfl) (by kernel_rfl) ?_
        repeat' (refine wpX_stepQ (fun K hK => ?_)
                 go_simp
                 try (rw [if_neg (by intro h; simp [undef] at h)])
                 try split
                 all_goals
                   first
                   | (refine hK _ ?_
                      clear hK K)
                   | (apply Exists.intro
                      refine ⟨fun wq hwq => ?_, hK _ ?_⟩
                      · have hcq := hwq.cellS
                        go_simp
                        first
                        | exact ⟨Ext.refl _, rfl⟩
                      clear hK K))
        refine wpX_nil (fun wz hwz => ?_)
        go_wp2
      · exact ⟨⟨k + 1, by omega, by go_num, take_ext hall.out hx'.out hy'.out (by simpa using e), hwr.trans hwz⟩, by simp [intOf]; omega⟩
      · go_ret
        refine ⟨ret_bool ?_, hwr.trans hwz⟩
        have h1 := hx'.out
        have h2 := hy'.out
        symm
        rw [decide_eq_false_iff_not]
        rintro rfl
        rw [h1] at h2
        injection h2 with h2
        simp [h2] at e
    · go_wp2
      go_ret
      refine ⟨ret_bool ?_, hwr⟩
      have h := hall.out
      rw [List.take_of_length_le (by rw [hxn.out]; omega), List.take_of_length_le (by rw [hyn.out]; omega)] at h
      simp [h]

set_option maxRecDepth 100000 in
theorem eqIS (w : World) (a1 a2 : Option Addr) (c1 c2 : Nat) (xs ys : List Int) (hX : RdI w a1 xs) (hY : RdI w a2 ys) (hl : xs.length ≤ 2000000) :
    Calls Tryz.prog 135 #[.slice a1 xs.length c1, .slice a2 ys.length c2] w fun e w' => e = .returned (.bool (decide (xs = ys))) ∧ Ext w w' := by
  by_cases hlen : xs.length = ys.length
  · rw [← hlen]
    exact eqISn w a1 a2 c1 c2 xs.length xs ys hX hY hl rfl hlen.symm
  · go_enter Tryz.func135, Tryz.ntmps135
    go_wp2
    go_ret
    exact ⟨ret_bool (by simp; rintro rfl; exact hlen rfl), (by repeat (first | exact Ext.refl _ | assumption | refine Ext.alloc ?_ _ | refine Ext.drew ?_ | refine Ext.trans ?_ (by assumption)))⟩

set_option maxRecDepth 100000 in
theorem eqI2 (w : World) (B1 B2 : Nat) (v1 v2 : Value) (xs ys : List Int) (h1 : RdB w B1 v1 xs) (h2 : RdB w B2 v2 ys) (hl : xs.length ≤ 2000000) :
    Calls Tryz.prog 135 #[v1, v2] w fun e w' => e = .returned (.bool (decide (xs = ys))) ∧ Ext w w' := by
  obtain ⟨a1, c1, rfl, hR1, _⟩ := h1
  obtain ⟨a2, c2, rfl, hR2, _⟩ := h2
  exact eqIS w a1 a2 c1 c2 xs ys hR1 hR2 hl

set_option maxRecDepth 100000 in
theorem eqI_same (w : World) (B1 B2 : Nat) (v1 v2 : Value) (xs : List Int) (h1 : RdB w B1 v1 xs) (h2 : RdB w B2 v2 xs) (hl : xs.length ≤ 2000000) :
    Calls Tryz.prog 135 #[v1, v2] w fun e w' => e = .returned (.bool true) ∧ Ext w w' :=
  (eqI2 w B1 B2 v1 v2 xs xs h1 h2 hl).mono fun _ _ ⟨he, hw⟩ => ⟨by rw [he]; simp, hw⟩

def WrI (w : World) (B : Nat) (v : Value) (xs : List Int) : Prop := ∃ a c, v = .slice a xs.length c ∧ xs.length ≤ c ∧
  (xs ≠ [] → ∃ g f, a = some ⟨g, 0, none⟩ ∧ B ≤ g ∧ BlkF w g xs.length f ∧ ∀ j x, xs[j]? = some x → f j = .int .i64 x)
set_option maxRecDepth 100000 in
theorem WrI.wr {w : World} {B : Nat} {v : Value} {xs : List Int} (h : WrI w B v xs) : WrI w B v xs := h
set_option maxRecDepth 100000 in
theorem OwnI.wr {w : World} {B : Nat} {v : Value} {xs : List Int} (h : OwnI w B v xs) : WrI w B v xs := by
  obtain ⟨a, c, hv, hc, _, hR, ho⟩ := h.val
  refine ⟨a, c, hv, hc, fun hne => ?_⟩
  obtain ⟨g, ha, hg, hB⟩ := ho hne
  exact ⟨g, _, ha, hg, hB, fun j x hx => by simp [List.getD, hx]⟩
set_option maxRecDepth 100000 in
theorem WrI.fr {w : World} {B : Nat} {v : Value} {xs : List Int} (h : WrI w B v xs) : FrI w B v xs := by
  obtain ⟨a, c, hv, hc, ho⟩ := h
  by_cases hne : xs = []
  · subst hne; subst hv; exact FrI.nil _ _ _ _
  · obtain ⟨g, f, rfl, hg, hB, hf⟩ := ho hne
    rw [hv]
    exact hB.frI rfl hf hg hc
set_option maxRecDepth 100000 in
theorem WrI.ext {w w' : World} {B : Nat} {v : Value} {xs : List Int} (h : WrI w B v xs) (hw : Ext w w') : WrI w' B v xs := by
  obtain ⟨a, c, hv, hc, ho⟩ := h
  refine ⟨a, c, hv, hc, fun hne => ?_⟩
  obtain ⟨g, f, ha, hg, hB, hf⟩ := ho hne
  exact ⟨g, f, ha, hg, hB.ext hw, hf⟩
set_option maxRecDepth 100000 in
theorem WrI.base {w : World} {B B' : Nat} {v : Value} {xs : List Int} (h : WrI w B v xs) (hb : B' ≤ B) : WrI w B' v xs := by
  obtain ⟨a, c, hv, hc, ho⟩ := h
  refine ⟨a, c, hv, hc, fun hne => ?_⟩
  obtain ⟨g, f, ha, hg, hB, hf⟩ := ho hne
  exact ⟨g, f, ha, by omega, hB, hf⟩
set_option maxRecDepth 100000 in
theorem WrI.rng {w w' : World} {B lo hi : Nat} {v : Value} {xs : List Int} (h : WrI w B v xs) (hg : hi ≤ B) (hw : Rng lo hi w w') : WrI w' B v xs := by
  obtain ⟨a, c, hv, hc, ho⟩ := h
  refine ⟨a, c, hv, hc, fun hne => ?_⟩
  obtain ⟨g, f, ha, hg', hB, hf⟩ := ho hne
  exact ⟨g, f, ha, hg', ⟨Nat.lt_of_lt_of_le hB.lt hw.size, fun o => (World.frozen?_of_block (w := w) (hw.block g hB.lt (by omega))).trans (hB.fr o), fun o ho => hw.keep (.inr (show hi ≤ g by omega)) (hB.cell o ho)⟩, hf⟩
set_option maxRecDepth 100000 in
theorem WrI.nil (w : World) (B : Nat) (a : Option Addr) (c : Nat) : WrI w B (.slice a 0 c) [] := ⟨a, c, rfl, Nat.zero_le _, fun h => absurd rfl h⟩
set_option maxRecDepth 100000 in
theorem BlkF.wrI {w : World} {g n B c : Nat} {f : Nat → Value} {xs : List Int} (hB : BlkF w g n f) (hn : xs.length = n) (hf : ∀ (j : Nat) (x : Int), xs[j]? = some x → f j = .int .i64 x) (hg : B ≤ g) (hc : n ≤ c) : WrI w B (.slice (some ⟨g, 0, none⟩) n c) xs := by
  subst hn
  exact ⟨_, _, rfl, hc, fun _ => ⟨g, f, rfl, hg, hB, hf⟩⟩

set_option maxRecDepth 100000 in
theorem eqIs (w : World) (a1 a2 : Option Addr) (c1 c2 : Nat) (xs : List Int) (hX : RdI w a1 xs) (hY : RdI w a2 xs) (hl : xs.length ≤ 2000000) :
    Calls Tryz.prog 135 #[.slice a1 xs.length c1, .slice a2 xs.length c2] w fun e w' => e = .returned (.bool true) ∧ Ext w w' :=
  (eqIS w a1 a2 c1 c2 xs xs hX hY hl).mono fun _ _ ⟨he, hw⟩ => ⟨by rw [he]; simp, hw⟩

set_option maxRecDepth 100000 in
set_option maxHeartbeats 1000000 in
theorem eqV1 (w : World) (a1 a2 : Option Addr) (c1 c2 : Nat) (xs : List Int) (x : Int) (hX : RdI w a1 xs) (hY : RdI w a2 xs) (hl : xs.length ≤ 2000000) :
    Calls Tryz.prog 75 #[.agg #[.slice a1 xs.length c1, .int .i64 x], .agg #[.slice a2 xs.length c2, .int .i64 x]] w fun e w' => e = .returned (.bool true) ∧ Ext w w' := by
  have q1 := new1 w (.slice a1 xs.length c1) (.int .i64 x) [] 55
  have q2 := (Ext.new (w.alloc (.cells #[.slice a1 xs.length c1, .int .i64 x] 55)) (.cells #[.slice a2 xs.length c2, .int .i64 x] 55)).keep q1
  have q3 := new1 (w.alloc (.cells #[.slice a1 xs.length c1, .int .i64 x] 55)) (.slice a2 xs.length c2) (.int .i64 x) [] 55
  clear q1
  rw [show (w.alloc (.cells #[.slice a1 xs.length c1, .int .i64 x] 55)).heap.size = w.heap.size + 1 by simp] at q3
  go_enter Tryz.func75, Tryz.ntmps75
  go_wp2_with (go_at_call 135; refine (eqIs _ _ _ _ _ _ (hX.ext (by repeat (first | exact Ext.refl _ | assumption | refine Ext.alloc ?_ _ | refine Ext.drew ?_ | refine Ext.trans ?_ (by assumption)))) (hY.ext (by repeat (first | exact Ext.refl _ | assumption | refine Ext.alloc ?_ _ | refine Ext.drew ?_ | refine Ext.trans ?_ (by assumption)))) hl).mono ?_; rintro e w1 ⟨rfl, hw1⟩; have q2 := Ext.keep (w' := w1) (by repeat (first | exact Ext.refl _ | assumption | refine Ext.alloc ?_ _ | refine Ext.drew ?_ | refine Ext.trans ?_ (by assumption))) q2; have q3 := Ext.keep (w' := w1) (by repeat (first | exact Ext.refl _ | assumption | refine Ext.alloc ?_ _ | refine Ext.drew ?_ | refine Ext.trans ?_ (by assumption))) q3)
  go_ret
  exact ⟨rfl, (by repeat (first | exact Ext.refl _ | assumption | refine Ext.alloc ?_ _ | refine Ext.drew ?_ | refine Ext.trans ?_ (by assumption)))⟩

set_option maxRecDepth 100000 in
set_option maxHeartbeats 2000000 in
theorem eqVS (w : World) (a1 a2 : Option Addr) (c1 c2 : Nat) (vs : List Vt) (hX : RdV w a1 vs) (hY : RdV w a2 vs) (hl : vs.length ≤ 2000000) (hm : ∀ x ∈ vs, x.1.length ≤ 2000000) :
    Calls Tryz.prog 31 #[.slice a1 vs.length c1, .slice a2 vs.length c2] w fun e w' => e = .returned (.bool true) ∧ Ext w w' := by
  have HM := hide hm
  clear hm
  go_enter Tryz.func31, Tryz.ntmps31
  go_wp2_with fail
  go_loopw [5] (fun i wr => ∃ k : Nat, k ≤ vs.length ∧ i = .int .i64 k ∧ Ext w wr) (fun i _ => vs.length - (intOf i).toNat)
  case atStart => exact ⟨0, Nat.zero_le _, rfl, Ext.refl _⟩
  case round =>
    obtain ⟨k, hk, rfl, hwr⟩ := hrel
    by_cases hlt : k < vs.length
    · obtain ⟨x, hx⟩ := at_of_lt hlt
      obtain ⟨b, off, a', c', rfl, c0, c1, hc', hRx⟩ := (hX.ext hwr).at_ hx
      obtain ⟨b', off', a'', c'', rfl, d0, d1, hd', hRy⟩ := (hY.ext hwr).at_ hx
      have hxl := HM.out x (List.mem_of_getElem? hx)
      clear hx
      go_wp2
      refine wp_region_X (by kernel_rfl) (by kernel_rfl) ?_
      repeat' (refine wpX_stepQ (fun K hK => ?_)
               go_simp
               try (rw [if_neg (by intro h; simp [undef] at h)])
               try split
               all_goals
                 first
                 | (refine hK _ ?_
                    clear hK K)
                 | (apply Exists.intro
                    refine ⟨fun wq hwq => ?_, hK _ ?_⟩
                    · have hcq := hwq.cellS
                      go_simp
                      first
                      | exact ⟨Ext.refl _, rfl⟩
                      | exact ⟨Ext.refl _, eqV1 _ _ _ _ _ _ _ (hRx.ext (by repeat (first | exact Ext.refl _ | assumption | refine Ext.alloc ?_ _ | refine Ext.drew ?_ | refine Ext.trans ?_ (by assumption)))) (hRy.ext (by repeat (first | exact Ext.refl _ | assumption | refine Ext.alloc ?_ _ | refine Ext.drew ?_ | refine Ext.trans ?_ (by assumption)))) hxl⟩
                    clear hK K))
      refine wpX_nil (fun wz hwz => ?_)
      go_wp2
      exact ⟨⟨k + 1, by omega, by go_num, hwr.trans hwz⟩, by simp [intOf]; omega⟩
    · go_wp2
      go_ret
      exact ⟨rfl, hwr⟩

set_option maxRecDepth 100000 in
set_option maxHeartbeats 1000000 in
theorem eqP (w : World) (s : Int) (a1 a2 : Option Addr) (c1 c2 : Nat) (vs : List Vt) (hX : RdV w a1 vs) (hY : RdV w a2 vs) (hl : vs.length ≤ 2000000) (hm : ∀ x ∈ vs, x.1.length ≤ 2000000) :
    Calls Tryz.prog 11 #[.agg #[.int .i64 s, .slice a1 vs.length c1], .agg #[.int .i64 s, .slice a2 vs.length c2]] w fun e w' => e = .returned (.bool true) ∧ Ext w w' := by
  go_enter Tryz.func11, Tryz.ntmps11
  go_wp2_with (go_at_call 31; refine (eqVS _ _ _ _ _ _ (hX.ext (by repeat (first | exact Ext.refl _ | assumption | refine Ext.alloc ?_ _ | refine Ext.drew ?_ | refine Ext.trans ?_ (by assumption)))) (hY.ext (by repeat (first | exact Ext.refl _ | assumption | refine Ext.alloc ?_ _ | refine Ext.drew ?_ | refine Ext.trans ?_ (by assumption)))) hl hm).mono ?_; rintro e w1 ⟨rfl, hw1⟩; have hc1 := hw1.cellS; have hf1 := hw1.frozenS)
  go_ret
  exact ⟨rfl, (by repeat (first | exact Ext.refl _ | assumption | refine Ext.alloc ?_ _ | refine Ext.drew ?_ | refine Ext.trans ?_ (by assumption)))⟩

/-- What is left of a copy whose first k votes have been overwritten. -/
def MkV (w : World) (lo hi : Nat) (g : Nat) (vs : List Vt) (k : Nat) : Prop := ∃ (f : Nat → Value) (h : Nat → Nat), lo ≤ g ∧ g < hi ∧ BlkF w g (vs.length * 2) f ∧
  ∀ j x, k ≤ j → vs[j]? = some x → f (j * 2) = .slice (some ⟨h j, 0, none⟩) x.1.length x.1.length ∧ g < h j ∧ h j < hi ∧
    (∀ i, k ≤ i → i < j → h i < h j) ∧ ∃ fi, BlkF w (h j) x.1.length fi
set_option maxRecDepth 100000 in
theorem OwnV.mk {w : World} {lo hi g : Nat} {vs : List Vt} (h : OwnV w lo hi g vs vs.length) : MkV w lo hi g vs 0 := by
  obtain ⟨f, h, h1, h2, hB, hj⟩ := h
  refine ⟨f, h, h1, h2, hB, fun j x _ hx => ?_⟩
  obtain ⟨a0, a1, a2, a3, a4, fi, a5, a6⟩ := hj j x (lt_of_at hx) hx
  exact ⟨a0, a2, a3, fun i _ hi => a4 i hi, fi, a5⟩
set_option maxRecDepth 100000 in
theorem MkV.ext {w w' : World} {lo hi g k : Nat} {vs : List Vt} (h : MkV w lo hi g vs k) (hw : Ext w w') : MkV w' lo hi g vs k := by
  obtain ⟨f, h, h1, h2, hB, hj⟩ := h
  refine ⟨f, h, h1, h2, hB.ext hw, fun j x hk hx => ?_⟩
  obtain ⟨a0, a2, a3, a4, fi, a5⟩ := hj j x hk hx
  exact ⟨a0, a2, a3, a4, fi, a5.ext hw⟩
set_option maxRecDepth 100000 in
theorem MkV.at_ {w : World} {lo hi g k : Nat} {vs : List Vt} {x : Vt} (h : MkV w lo hi g vs k) (hx : vs[k]? = some x) :
    ∃ gk fi v, w.cell? ⟨g, k * 2, none⟩ = some (.slice (some ⟨gk, 0, none⟩) x.1.length x.1.length) ∧ w.cell? ⟨g, k * 2 + 1, none⟩ = some v ∧ (∀ o, w.frozen? ⟨g, o, none⟩ = false) ∧ lo ≤ gk ∧ gk < hi ∧ BlkF w gk x.1.length fi ∧
      ∀ w', Only gk w w' → (∀ o, w'.frozen? ⟨g, o, none⟩ = false) ∧ w'.cell? ⟨g, k * 2 + 1, none⟩ = some v ∧ ∀ u, MkV (w'.setCell ⟨g, k * 2 + 1, none⟩ u) lo hi g vs (k + 1) := by
  obtain ⟨f, h, h1, h2, hB, hj⟩ := h
  have hl := lt_of_at hx
  obtain ⟨a0, a2, a3, a4, fi, a5⟩ := hj k x (Nat.le_refl _) hx
  refine ⟨h k, fi, _, ?_, hB.cell _ (by omega), hB.fr, by omega, a3, a5, fun w' hw => ?_⟩
  · rw [hB.cell _ (by omega), a0]
  · have hB' := hw.blk hB (by omega)
    refine ⟨hB'.fr, hB'.cell _ (by omega), fun u => ⟨_, h, h1, h2, hB'.set _ (by omega) u, fun j y hk hy => ?_⟩⟩
    obtain ⟨b0, b2, b3, b4, fj, b5⟩ := hj j y (by omega) hy
    have := b4 k (Nat.le_refl _) (by omega)
    refine ⟨?_, b2, b3, fun i h3 h4 => b4 i (by omega) h4, fj, (hw.blk b5 (by omega)).far (by simp; omega) _⟩
    rw [if_neg (by omega)]; exact b0

end Go.Proofs.YtilcdnkkabmbfaaGreat
