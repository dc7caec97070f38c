/- What the statements' reading of profiles says of memory. Profiles copied whole. The winner by a rule, of the program and of the spec. Rankings that are changed (plain law). The answers on failures of a rule (plain law). A winner who is not the one that should win, of the program and of the spec. Rankings that are copied, raised, turned round and cut, of the program. Rankings that are raised, cut and turned round, of the program and of the spec. Rankings that are turned round or left by a candidate, and copies made by append. -/
import Derived.Test.YtilcdnkkabmbfaaGreatCk19
import Derived.Test.YtilcdnkkabmbfaaGreatCk2
import Derived.Test.YtilcdnkkabmbfaaGreatCk3
import Derived.Test.YtilcdnkkabmbfaaGreatCk18
import Derived.Test.YtilcdnkkabmbfaaGreatCk15
import Derived.Test.YtilcdnkkabmbfaaGreatCk13
import Derived.Test.YtilcdnkkabmbfaaGreatCk14
import Derived.Test.YtilcdnkkabmbfaaGreatCk9
import Derived.Lib.BufferMore
import Derived.Test.YtilcdnkkabmbfaaGreatCk10
namespace Go.Proofs.YtilcdnkkabmbfaaGreat
open Go.RowKit

open Go.ChangeShapes Go.WideShapes Go.ChangeAt Go.RowKit Go.Joins Go.Deep

section
variable {H : Type} {enc : TypeId × Value → H} {W : World} {base : Nat} {spare : Nat → Bool} {held : Bool} {b0 : Nat}
set_option maxRecDepth 100000 in
theorem openI_trod {fuel : Nat} {v : Value} {x : DataW H × List MemPlace} (h : DataW.trod enc Tryz.prog W base spare held fuel 36 [v] = some x) :
    ∃ (a : Option Addr) (xs : List Int) (c : Nat), v = .slice a xs.length c ∧ RdI W a xs ∧ xs.length ≤ c ∧ xs.length ≤ maxLen := by
  rcases open_ints Tryz.underlying36 Tryz.underlying3 (by kernel_rfl) h with ⟨e1, _⟩ | ⟨a, len, cap, zs, e1, _, hl, hm, hzl, _, hc, _⟩
  · simp at e1
    subst e1
    exact ⟨none, [], 0, rfl, RdI.nil _ _, Nat.le_refl _, by simp⟩
  · simp at e1
    subst e1
    have hle : len ≤ zs.length := by rw [hzl]; split <;> omega
    have htl : (zs.take len).length = len := by simp; omega
    refine ⟨some a, zs.take len, cap, by rw [htl], fun hne => ?_, by omega, by omega⟩
    have hpos : 0 < len := by have := List.length_pos_iff.2 hne; omega
    have h0 := hc 0 (by omega)
    obtain ⟨b, off, spot⟩ := a
    have hspot : spot = none := by simpa [Addr.add] using World.cell?_spot h0
    subst hspot
    refine ⟨b, off, rfl, fun j y hy => ?_⟩
    have hj := lt_of_at hy
    rw [htl] at hj
    have h2 := hc j (by omega)
    rw [addr_add_none] at h2
    rw [h2]
    rw [List.getElem?_take_of_lt hj] at hy
    simp [List.getD, hy]

set_option maxRecDepth 100000 in
theorem openIS {v : Value} {d : DataW H} {p : List MemPlace} (hv : Value.okWide Tryz.prog W .any b0 36 v) (h : DataW.Trod enc Tryz.prog W base spare held 36 v d p) :
    ∃ (a : Option Addr) (xs : List Int) (c : Nat), v = .slice a xs.length c ∧ RdI W a xs ∧ xs.length ≤ maxLen := by
  obtain ⟨m, hm⟩ := h
  obtain ⟨_, _, _, rfl⟩ := okWide_slice Tryz.underlying36 hv
  obtain ⟨a, xs, c, hv, hR, _, hl⟩ := openI_trod hm
  exact ⟨a, xs, c, hv, hR, hl⟩

set_option maxRecDepth 100000 in
theorem openP {v : Value} {d : DataW H} {p : List MemPlace}
    (hv : Value.okWide Tryz.prog W .any b0 24 v) (h : DataW.Trod enc Tryz.prog W base spare held 24 v d p) :
    ∃ (sz : Int) (a : Option Addr) (vs : List Vt) (c : Nat), v = .agg #[.int .i64 sz, .slice a vs.length c] ∧ RdV W a vs ∧ vs.length ≤ maxLen ∧ ∀ x ∈ vs, x.1.length ≤ maxLen := by
  obtain ⟨c0, c1, y0, y1, n, rfl, -, -, h0, h1⟩ := open_agg2 Tryz.underlying24 (by kernel_rfl) (by kernel_rfl) hv h
  obtain ⟨sz, e0, hy0, _⟩ := DataW.trod_int Tryz.underlying3 h0
  simp at e0
  subst e0
  rcases open_slice_fields Tryz.underlying22 Tryz.underlying74 (by kernel_rfl) (by kernel_rfl) h1 with ⟨e1, _⟩ | ⟨a, len, cap, m, e1, _, hl, hm, hlm, hf⟩
  · simp at e1
    subst e1
    exact ⟨sz, none, [], 0, rfl, RdV.nil _ _, by simp, by simp⟩
  · simp at e1
    subst e1
    obtain ⟨vs, hbl, hbs⟩ := list_of (fun i (x : Vt) => ∃ a' c', W.cell? (a.add (i * 2)) = some (.slice a' x.1.length c') ∧ W.cell? (a.add (i * 2 + 1)) = some (.int .i64 x.2) ∧ x.1.length ≤ c' ∧ RdI W a' x.1 ∧ x.1.length ≤ maxLen) len (fun i hi => by
      obtain ⟨ys, n', hyl, hj⟩ := hf i (by omega)
      obtain ⟨u0, z0, g0, _, t0⟩ := hj 0 _ rfl
      obtain ⟨u1, z1, g1, _, t1⟩ := hj 1 _ rfl
      obtain ⟨a', xs, c', rfl, hR, k0, k1⟩ := openI_trod t0
      obtain ⟨y, ey, _, _⟩ := DataW.trod_int Tryz.underlying3 t1
      simp at ey
      subst ey
      exact ⟨(xs, y), a', c', g0, g1, k0, hR, k1⟩)
    subst hbl
    refine ⟨sz, some a, vs, cap, rfl, fun hne => ?_, by omega, fun x hx => ?_⟩
    · have hpos : 0 < vs.length := List.length_pos_iff.2 hne
      obtain ⟨x, hx⟩ := at_of_lt hpos
      obtain ⟨_, _, hc, _⟩ := hbs 0 x hx
      obtain ⟨b, off, spot⟩ := a
      have hspot : spot = none := by simpa [Addr.add] using World.cell?_spot hc
      subst hspot
      refine ⟨b, off, rfl, fun j y hy => ?_⟩
      obtain ⟨a', c', h2, h3, h4, h5, _⟩ := hbs j y hy
      rw [addr_add_none] at h2 h3
      exact ⟨a', c', h2, h3, h4, h5⟩
    · obtain ⟨j, hj⟩ := List.getElem?_of_mem hx
      obtain ⟨_, _, _, _, _, _, h6⟩ := hbs j x hj
      exact h6

end

set_option maxRecDepth 100000 in
theorem SzOk.bd {vs : List Vt} {r : Int} (h : SzOk 1048576 vs r) (hr : ¬ r < 0) : vs.length ≤ 1048576 ∧ ∀ x ∈ vs, x.1.length ≤ 1048576 := by
  rcases h with h | ⟨_, h1, h2⟩
  · exact absurd h hr
  · refine ⟨by omega, fun x hx => ?_⟩
    have := h2 x hx
    omega

set_option maxRecDepth 100000 in
theorem OwnV.mono {w : World} {lo lo' hi hi' g k : Nat} {vs : List Vt} (h : OwnV w lo hi g vs k) (h1 : lo' ≤ lo) (h2 : hi ≤ hi') : OwnV w lo' hi' g vs k := by
  obtain ⟨f, h, a1, a2, hB, hj⟩ := h
  refine ⟨f, h, by omega, by omega, hB, fun j x hk hx => ?_⟩
  obtain ⟨b0, b1, b2, b3, b4, b5⟩ := hj j x hk hx
  exact ⟨b0, b1, b2, by omega, b4, b5⟩
set_option maxRecDepth 100000 in
theorem OwnV.far {w : World} {lo hi g k : Nat} {vs : List Vt} (h : OwnV w lo hi g vs k) {p : Addr} (hp : p.block < lo) (v : Value) : OwnV (w.setCell p v) lo hi g vs k := by
  obtain ⟨f, h, a1, a2, hB, hj⟩ := h
  refine ⟨f, h, by omega, by omega, hB.far (by omega) v, fun j x hk hx => ?_⟩
  obtain ⟨b0, b1, b2, b3, b4, fi, b5, b6⟩ := hj j x hk hx
  exact ⟨b0, b1, b2, b3, b4, fi, b5.far (by omega) v, b6⟩

set_option maxRecDepth 100000 in
set_option maxHeartbeats 1000000 in
theorem toP (w : World) (sz : Int) (a : Option Addr) (c : Nat) (vs : List Vt) (hR : RdV w a vs) (hl : vs.length ≤ 1048576) (hm : ∀ x ∈ vs, x.1.length ≤ 1048576) :
    Calls Tryz.prog 9 #[.agg #[.int .i64 sz, .slice a vs.length c]] w fun e w' => ∃ g, e = .returned (.agg #[.int .i64 sz, .slice (some ⟨g, 0, none⟩) vs.length vs.length]) ∧
      OwnV w' w.heap.size w'.heap.size g vs vs.length ∧ Ext w w' := by
  go_enter Tryz.func9, Tryz.ntmps9
  go_wp2_with fail
  refine (toVS _ _ _ _ (hR.ext (by repeat (first | exact Ext.refl _ | assumption | refine Ext.alloc ?_ _ | refine Ext.drew ?_ | refine Ext.trans ?_ (by assumption)))) hl hm).mono ?_
  rintro e w1 ⟨g, rfl, hO, hw1⟩
  have p0 := hw1.keep (p := ⟨w.heap.size + 1 + 1, 0, none⟩) (v := .int .i64 sz) (by go_simp)
  have p1 := hw1.keep (p := ⟨w.heap.size + 1 + 1, 1, none⟩) (v := .slice none 0 0) (by go_simp)
  have p2 := hw1.keep (p := ⟨w.heap.size + 1, 0, none⟩) (v := .int .i64 0) (by go_simp)
  have p3 := hw1.keep (p := ⟨w.heap.size + 1, 1, none⟩) (v := .slice none 0 0) (by go_simp)
  have z1 : w1.frozen? ⟨w.heap.size + 1 + 1, 1, none⟩ = false := (hw1.frozenS _ (by go_simp)).trans (by go_simp)
  have z2 : w1.frozen? ⟨w.heap.size + 1, 0, none⟩ = false := (hw1.frozenS _ (by go_simp)).trans (by go_simp)
  have z3 : w1.frozen? ⟨w.heap.size + 1, 1, none⟩ = false := (hw1.frozenS _ (by go_simp)).trans (by go_simp)
  have HO := hide hO
  clear hO
  go_wp2
  refine bodyPost_ret (v := .agg #[.int .i64 sz, .slice (some ⟨g, 0, none⟩) vs.length vs.length]) (by simp [results, Tryz.results9, go_sem, p2, p3]) rfl ⟨g, rfl, ?_, ?_⟩
  · have hO := HO.out
    exact (((hO.far (by simp) _).far (by simp) _).far (by simp) _).mono (by simp; omega) (by simp [World.setCell])
  · exact ((((by simpa using hw1.a.a.a : Ext w w1).setCell (by simp; omega) _).setCell (by simp) _).setCell (by simp) _)

set_option maxRecDepth 100000 in
theorem toP_rd (w : World) (sz : Int) (a : Option Addr) (c : Nat) (vs : List Vt) (hR : RdV w a vs) (hl : vs.length ≤ 1048576) (hm : ∀ x ∈ vs, x.1.length ≤ 1048576) :
    Calls Tryz.prog 9 #[.agg #[.int .i64 sz, .slice a vs.length c]] w fun e w' => ∃ a', e = .returned (.agg #[.int .i64 sz, .slice a' vs.length vs.length]) ∧ RdV w' a' vs ∧ Ext w w' :=
  (toP w sz a c vs hR hl hm).mono fun _ _ ⟨g, he, hO, hw⟩ => ⟨some ⟨g, 0, none⟩, he, hO.rd, hw⟩

set_option maxRecDepth 100000 in
set_option maxHeartbeats 1000000 in
theorem winb_impl (w : World) (rule sz : Int) (a : Option Addr) (c : Nat) (vs : List Vt) (hR : RdV w a vs) :
    Calls Tryz.prog 18 #[.int .i64 rule, .agg #[.int .i64 sz, .slice a vs.length c]] w fun e w' => e = .returned (.int .i64 (winB rule sz vs)) ∧ Ext w w' := by
  go_enter Tryz.func18, Tryz.ntmps18
  go_wp2_with fail
  refine (wins_impl _ rule sz a c vs (hR.ext (by repeat (first | exact Ext.refl _ | assumption | refine Ext.alloc ?_ _ | refine Ext.drew ?_ | refine Ext.trans ?_ (by assumption))))).mono ?_
  rintro e w1 ⟨v, rfl, hv, hw1⟩
  obtain ⟨av, cv, rfl, _, _, hRv, _⟩ := hv.val
  have hw : Ext w w1 := (by repeat (first | exact Ext.refl _ | assumption | refine Ext.alloc ?_ _ | refine Ext.drew ?_ | refine Ext.trans ?_ (by assumption)))
  have HB : Hid (winB rule sz vs = (winO rule sz vs).headD (-1)) := rfl
  generalize winO rule sz vs = xs at hv hRv HB ⊢
  clear hv hw1
  cases xs with
  | nil =>
    go_wp2
    go_ret
    exact ⟨ret_int HB.out.symm, hw⟩
  | cons x r =>
    obtain ⟨b, off, rfl, c0⟩ := hRv.at_ (k := 0) (x := x) rfl
    rw [Nat.add_zero] at c0
    obtain ⟨n, hn, hn1⟩ : ∃ n : Nat, (x :: r).length = n ∧ 0 < n := ⟨_, rfl, by simp⟩
    rw [hn]
    have t0 : ((n : Int) == 0) = false := by rw [beq_eq_false_iff_ne]; omega
    clear hRv hn
    go_wp2
    go_ret
    exact ⟨ret_int HB.out.symm, hw⟩

set_option maxRecDepth 100000 in
theorem rk_perm_ok {m : Int} {xs ys : List Int} (h : ys.Perm xs) (hr : rkOk m xs = true) : rkOk m ys = true := by
  have hl := h.length_eq
  unfold rkOk at hr ⊢
  simp only [Bool.and_eq_true, decide_eq_true_eq, List.all_eq_true] at hr ⊢
  obtain ⟨h1, h2, h3, h4⟩ := hr
  exact ⟨h1, by omega, fun x hx => h3 x (h.mem_iff.1 hx), h.nodup_iff.2 h4⟩
/-- One place up. -/
def raiseL (xs : List Int) (i : Nat) : List Int := (xs.set (i - 1) (xs.getD i 0)).set i (xs.getD (i - 1) 0)
set_option maxRecDepth 100000 in
theorem raise_len (xs : List Int) (i : Nat) : (raiseL xs i).length = xs.length := by unfold raiseL; rw [List.length_set, List.length_set]
set_option maxRecDepth 100000 in
theorem raise_ok {m : Int} {xs : List Int} {i : Nat} (hr : rkOk m xs = true) (hi : i < xs.length) : rkOk m (raiseL xs i) = true := by
  refine rk_perm_ok ?_ hr
  unfold raiseL
  have h1 : xs.getD i 0 = xs[i] := by simp [List.getD, List.getElem?_eq_getElem hi]
  have hi2 : i - 1 < xs.length := by omega
  have h2 : xs.getD (i - 1) 0 = xs[i - 1] := by simp [List.getD, List.getElem?_eq_getElem hi2]
  rw [h1, h2]
  exact List.set_set_perm hi2 hi
set_option maxRecDepth 100000 in
theorem raise_at {xs : List Int} {i : Nat} (h1 : 1 ≤ i) (hi : i < xs.length) (j : Nat) (hj : j < xs.length) : (raiseL xs i).getD j 0 = if j = i then xs.getD (i - 1) 0 else if j = i - 1 then xs.getD i 0 else xs.getD j 0 := by
  unfold raiseL
  rw [List.getD_eq_getElem?_getD, List.getElem?_set]
  by_cases e : j = i
  · subst e
    rw [if_pos rfl, if_pos rfl, List.length_set, if_pos hj]; rfl
  · rw [if_neg (fun h => e h.symm), if_neg e, List.getElem?_set]
    by_cases e2 : j = i - 1
    · rw [if_pos e2.symm, if_pos e2, if_pos (by omega)]; rfl
    · rw [if_neg (fun h => e2 h.symm), if_neg e2, List.getD_eq_getElem?_getD]
/-- A number without a candidate. -/
def dropV (a x : Int) : List Int := if x < a then [x] else if a < x then [x - 1] else []
def dropL (a : Int) (xs : List Int) : List Int := xs.flatMap (dropV a)
set_option maxRecDepth 100000 in
theorem dropL_at {a : Int} {xs : List Int} {k : Nat} {x : Int} (hx : xs[k]? = some x) : dropL a (xs.take (k + 1)) = dropL a (xs.take k) ++ dropV a x := by rw [take_at hx]; simp [dropL]
set_option maxRecDepth 100000 in
theorem dropL_len (a : Int) : ∀ xs : List Int, (dropL a xs).length ≤ xs.length
  | [] => by simp [dropL]
  | x :: xs => by
    have ih := dropL_len a xs
    have h1 : (dropV a x).length ≤ 1 := by
      unfold dropV
      split
      · simp
      · split <;> simp
    have e : dropL a (x :: xs) = dropV a x ++ dropL a xs := by unfold dropL; rw [List.flatMap_cons]
    rw [e, List.length_append, List.length_cons]
    omega
def downV (a b : Int) : Int := if a < b then b - 1 else b
set_option maxRecDepth 100000 in
theorem dropL_filter (a : Int) : ∀ xs : List Int, dropL a xs = (xs.filter (fun y => !(y == a))).map (downV a)
  | [] => rfl
  | x :: xs => by
    have ih := dropL_filter a xs
    unfold dropL at ih ⊢
    rw [List.flatMap_cons, ih, List.filter_cons]
    unfold dropV downV
    rcases Int.lt_trichotomy x a with h | h | h
    · have hb : (x == a) = false := by rw [beq_eq_false_iff_ne]; omega
      rw [if_pos h, hb]
      simp; omega
    · subst h
      simp
    · have hb : (x == a) = false := by rw [beq_eq_false_iff_ne]; omega
      rw [if_neg (by omega), if_pos h, hb]
      simp; omega
set_option maxRecDepth 100000 in
theorem dropL_erase {a : Int} {xs : List Int} {i : Nat} (hd : xs.Nodup) (hi : xs[i]? = some a) : dropL a xs = (xs.eraseIdx i).map (downV a) := by rw [dropL_filter, erase_filter hd hi]
/-- Votes of which each ranking is changed. -/
def mapV (F : List Int → List Int) (vs : List Vt) : List Vt := vs.map (fun x => (F x.1, x.2))
set_option maxRecDepth 100000 in
theorem mapV_len (F : List Int → List Int) (vs : List Vt) : (mapV F vs).length = vs.length := by unfold mapV; rw [List.length_map]
/-- The first number below n of which something holds, or -1. -/
def firstN (n : Nat) (q : Nat → Bool) : Int := match (List.range n).find? q with | some k => (k : Int) | none => -1
set_option maxRecDepth 100000 in
theorem firstN_some {n k : Nat} {q : Nat → Bool} (hk : k < n) (h1 : ∀ j, j < k → q j = false) (h2 : q k = true) : firstN n q = k := by
  unfold firstN
  have : (List.range n).find? q = some k := by
    rw [List.find?_range_eq_some]
    exact ⟨h2, List.mem_range.2 hk, fun j hj => by simpa using h1 j hj⟩
  rw [this]
set_option maxRecDepth 100000 in
theorem firstN_none {n : Nat} {q : Nat → Bool} (h : ∀ j, j < n → q j = false) : firstN n q = -1 := by
  unfold firstN
  have : (List.range n).find? q = none := by
    rw [List.find?_eq_none]
    intro x hx
    rw [h x (List.mem_range.1 hx)]; decide
  rw [this]
set_option maxRecDepth 100000 in
theorem none_succ {q : Nat → Bool} {k : Nat} (h : ∀ j, j < k → q j = false) (hk : q k = false) : ∀ j, j < k + 1 → q j = false := fun j hj => by
  rcases Nat.lt_succ_iff_lt_or_eq.1 hj with h1 | rfl
  · exact h j h1
  · exact hk

/-- There is a winner and another one who should win. -/
noncomputable def missB (w a : Int) : Bool := decide (0 ≤ w) && (decide (0 ≤ a) && !(w == a))
/-- A vote in which the winner is raised and with which it no longer wins. -/
noncomputable def monQ (rule sz : Int) (vs : List Vt) (w : Int) (k : Nat) : Bool :=
  decide (1 ≤ placeI (vs.getD k ([], 0)).1 w) && !(winB rule sz (vs.set k (raiseL (vs.getD k ([], 0)).1 (placeI (vs.getD k ([], 0)).1 w).toNat, (vs.getD k ([], 0)).2)) == w)
noncomputable def monO (rule sz : Int) (vs : List Vt) : Int := if winB rule sz vs < 0 then -1 else firstN vs.length (monQ rule sz vs (winB rule sz vs))
/-- Without this vote a candidate wins whom it prefers. -/
noncomputable def absQ (rule sz : Int) (vs : List Vt) (w : Int) (k : Nat) : Bool := prefB (vs.getD k ([], 0)).1 (winB rule sz (vs.eraseIdx k)) w
noncomputable def absO (rule sz : Int) (vs : List Vt) : Int := if winB rule sz vs < 0 then -1 else firstN vs.length (absQ rule sz vs (winB rule sz vs))
/-- Without this candidate another one wins. -/
noncomputable def spoQ (rule sz : Int) (vs : List Vt) (w : Int) (a : Nat) : Bool :=
  !((a : Int) == w) && !(winB rule (sz - 1) (mapV (dropL a) vs) == (if (a : Int) < w then w - 1 else w))
noncomputable def spoO (rule sz : Int) (vs : List Vt) : Int := if winB rule sz vs < 0 then -1 else firstN sz.toNat (spoQ rule sz vs (winB rule sz vs))
/-- One alone wins, and also in the reversed profile. -/
noncomputable def revO (rule sz : Int) (vs : List Vt) : Bool := decide ((winO rule sz vs).length = 1) && (decide (2 ≤ sz) && decide (winO rule sz vs = winO rule sz (mapV List.reverse vs)))
/-- Both parts have the same winner, and the whole another one. -/
noncomputable def splO (rule sz : Int) (vs : List Vt) (k : Int) : Bool :=
  decide (0 ≤ winB rule sz vs) && (inR k 1 ((vs.length : Int) - 1) && ((winB rule sz (vs.take k.toNat) == winB rule sz (vs.drop k.toNat)) && !(winB rule sz (vs.take k.toNat) == winB rule sz vs)))
/-- The rules by which a candidate wins. -/
noncomputable def rulL (sz : Int) (vs : List Vt) (a : Int) (k : Nat) : List Int := ((List.range k).filter (fun i : Nat => decide (winB ((i : Int) + 1) sz vs = a))).map (fun i : Nat => (i : Int) + 1)
noncomputable def rulO (sz : Int) (vs : List Vt) (a : Int) : List Int := if profOk sz vs then rulL sz vs a 13 else []
set_option maxRecDepth 100000 in
theorem rulL_succ (sz : Int) (vs : List Vt) (a : Int) (k : Nat) : rulL sz vs a (k + 1) = rulL sz vs a k ++ if winB ((k : Int) + 1) sz vs = a then [(k : Int) + 1] else [] := by
  unfold rulL
  rw [List.range_succ, List.filter_append, List.map_append]
  by_cases h : winB ((k : Int) + 1) sz vs = a <;> simp [h]
set_option maxRecDepth 100000 in
theorem rulL_len (sz : Int) (vs : List Vt) (a : Int) (k : Nat) : (rulL sz vs a k).length ≤ k := by
  unfold rulL
  rw [List.length_map]
  exact Nat.le_trans (List.length_filter_le _ _) (by simp)
set_option maxRecDepth 100000 in
theorem rulO_len (sz : Int) (vs : List Vt) (a : Int) : (rulO sz vs a).length ≤ 13 := by
  unfold rulO
  split
  · exact rulL_len _ _ _ _
  · simp

set_option maxRecDepth 100000 in
set_option maxHeartbeats 1000000 in
theorem misses_impl (w : World) (x y : Int) :
    Calls Tryz.prog 57 #[.int .i64 x, .int .i64 y] w fun e w' => e = .returned (.bool (missB x y)) ∧ Ext w w' := by
  have HM : Hid (missB x y = (decide (0 ≤ x) && (decide (0 ≤ y) && !(x == y)))) := rfl
  by_cases h1 : 0 ≤ x <;> by_cases h2 : 0 ≤ y <;> cases h3 : (x == y)
  all_goals
    go_enter Tryz.func57, Tryz.ntmps57
    go_wp2
    go_ret
    exact ⟨ret_bool (by rw [HM.out]; simp [h1, h2, h3]; try simpa using h3), Ext.refl _⟩

noncomputable def miscO (rule sz : Int) (vs : List Vt) : Bool := missB (winB rule sz vs) (winnerO sz vs)

set_option maxRecDepth 100000 in
set_option maxHeartbeats 2000000 in
theorem misc_impl (w : World) (rule sz : Int) (a : Option Addr) (c : Nat) (vs : List Vt) (hR : RdV w a vs) :
    Calls Tryz.prog 21 #[.int .i64 rule, .agg #[.int .i64 sz, .slice a vs.length c]] w fun e w' => e = .returned (.bool (miscO rule sz vs)) ∧ Ext w w' := by
  have q0 := new0 w (.int .i64 sz) [.slice a vs.length c] 29
  have q1 := new1 w (.int .i64 sz) (.slice a vs.length c) [] 29
  go_enter Tryz.func21, Tryz.ntmps21
  go_wp2
  refine wp_region_X (by kernel_rfl) (by kernel_rfl) ?_
  repeat' (refine wpX_stepQ (fun K hK => ?_)
           go_simp
           try (rw [if_neg (by intro h; simp [undef] at h)])
           try split
           all_goals
             first
             | (refine hK _ ?_
                clear hK K)
             | (apply Exists.intro
                refine ⟨fun wq hwq => ?_, hK _ ?_⟩
                · have hcq := hwq.cellS
                  go_simp
                  first
                  | exact ⟨Ext.refl _, rfl⟩
                  | exact ⟨Ext.refl _, winb_impl _ rule sz a c vs (hR.ext (by repeat (first | exact Ext.refl _ | assumption | refine Ext.alloc ?_ _ | refine Ext.drew ?_ | refine Ext.trans ?_ (by assumption))))⟩
                clear hK K))
  repeat' (refine wpX_stepQ (fun K hK => ?_)
           go_simp
           try (rw [if_neg (by intro h; simp [undef] at h)])
           try split
           all_goals
             first
             | (refine hK _ ?_
                clear hK K)
             | (apply Exists.intro
                refine ⟨fun wq hwq => ?_, hK _ ?_⟩
                · have hcq := hwq.cellS
                  go_simp
                  first
                  | exact ⟨Ext.refl _, rfl⟩
                  | exact ⟨Ext.refl _, winner_impl _ sz a c vs (hR.ext (by repeat (first | exact Ext.refl _ | assumption | refine Ext.alloc ?_ _ | refine Ext.drew ?_ | refine Ext.trans ?_ (by assumption))))⟩
                clear hK K))
  repeat' (refine wpX_stepQ (fun K hK => ?_)
           go_simp
           try (rw [if_neg (by intro h; simp [undef] at h)])
           try split
           all_goals
             first
             | (refine hK _ ?_
                clear hK K)
             | (apply Exists.intro
                refine ⟨fun wq hwq => ?_, hK _ ?_⟩
                · have hcq := hwq.cellS
                  go_simp
                  first
                  | exact ⟨Ext.refl _, rfl⟩
                  | exact ⟨Ext.refl _, misses_impl _ _ _⟩
                clear hK K))
  refine wpX_nil (fun wz hwz => ?_)
  go_wp2
  go_ret
  exact ⟨rfl, (by repeat (first | exact Ext.refl _ | assumption | refine Ext.alloc ?_ _ | refine Ext.drew ?_ | refine Ext.trans ?_ (by assumption)))⟩

noncomputable def mismO (rule sz : Int) (vs : List Vt) : Bool := missB (winB rule sz vs) (majO sz vs)

set_option maxRecDepth 100000 in
set_option maxHeartbeats 2000000 in
theorem mism_impl (w : World) (rule sz : Int) (a : Option Addr) (c : Nat) (vs : List Vt) (hR : RdV w a vs) :
    Calls Tryz.prog 25 #[.int .i64 rule, .agg #[.int .i64 sz, .slice a vs.length c]] w fun e w' => e = .returned (.bool (mismO rule sz vs)) ∧ Ext w w' := by
  have q0 := new0 w (.int .i64 sz) [.slice a vs.length c] 29
  have q1 := new1 w (.int .i64 sz) (.slice a vs.length c) [] 29
  go_enter Tryz.func25, Tryz.ntmps25
  go_wp2
  refine wp_region_X (by kernel_rfl) (by kernel_rfl) ?_
  repeat' (refine wpX_stepQ (fun K hK => ?_)
           go_simp
           try (rw [if_neg (by intro h; simp [undef] at h)])
           try split
           all_goals
             first
             | (refine hK _ ?_
                clear hK K)
             | (apply Exists.intro
                refine ⟨fun wq hwq => ?_, hK _ ?_⟩
                · have hcq := hwq.cellS
                  go_simp
                  first
                  | exact ⟨Ext.refl _, rfl⟩
                  | exact ⟨Ext.refl _, winb_impl _ rule sz a c vs (hR.ext (by repeat (first | exact Ext.refl _ | assumption | refine Ext.alloc ?_ _ | refine Ext.drew ?_ | refine Ext.trans ?_ (by assumption))))⟩
                clear hK K))
  repeat' (refine wpX_stepQ (fun K hK => ?_)
           go_simp
           try (rw [if_neg (by intro h; simp [undef] at h)])
           try split
           all_goals
             first
             | (refine hK _ ?_
                clear hK K)
             | (apply Exists.intro
                refine ⟨fun wq hwq => ?_, hK _ ?_⟩
                · have hcq := hwq.cellS
                  go_simp
                  first
                  | exact ⟨Ext.refl _, rfl⟩
                  | exact ⟨Ext.refl _, maj_impl _ sz a c vs (hR.ext (by repeat (first | exact Ext.refl _ | assumption | refine Ext.alloc ?_ _ | refine Ext.drew ?_ | refine Ext.trans ?_ (by assumption))))⟩
                clear hK K))
  repeat' (refine wpX_stepQ (fun K hK => ?_)
           go_simp
           try (rw [if_neg (by intro h; simp [undef] at h)])
           try split
           all_goals
             first
             | (refine hK _ ?_
                clear hK K)
             | (apply Exists.intro
                refine ⟨fun wq hwq => ?_, hK _ ?_⟩
                · have hcq := hwq.cellS
                  go_simp
                  first
                  | exact ⟨Ext.refl _, rfl⟩
                  | exact ⟨Ext.refl _, misses_impl _ _ _⟩
                clear hK K))
  refine wpX_nil (fun wz hwz => ?_)
  go_wp2
  go_ret
  exact ⟨rfl, (by repeat (first | exact Ext.refl _ | assumption | refine Ext.alloc ?_ _ | refine Ext.drew ?_ | refine Ext.trans ?_ (by assumption)))⟩

/-- Block g holds s cells, all of which may be written. -/
def Shp (g : Nat) (e : TypeId) (s : Nat) (w : World) : Prop := ∃ cur, w.heap[g]? = some (.cells cur e (0, 0)) ∧ cur.size = s
set_option maxRecDepth 100000 in
theorem Shp.setCell {g : Nat} {e : TypeId} {s : Nat} {w : World} (h : Shp g e s w) (a : Addr) (v : Value) : Shp g e s (w.setCell a v) := by
  obtain ⟨cur, hh, hs⟩ := h
  unfold Shp
  simp only [World.setCell, Array.getElem?_modify]
  by_cases hb : a.block = g
  · rw [if_pos hb, hh]
    refine ⟨_, rfl, ?_⟩
    split
    · exact hs
    · rw [Array.size_setIfInBounds]; exact hs
  · rw [if_neg hb]; exact ⟨cur, hh, hs⟩
set_option maxRecDepth 100000 in
theorem Shp.setCells {g g' : Nat} {e : TypeId} {s : Nat} : ∀ (cs : List Value) (w : World) (o : Nat), Shp g e s w → Shp g e s (w.setCells g' o cs)
  | [], _, _, h => h
  | _ :: cs, _, _, h => Shp.setCells cs _ _ (h.setCell _ _)
set_option maxRecDepth 100000 in
theorem Shp.ext {g : Nat} {e : TypeId} {s : Nat} {w w' : World} (h : Shp g e s w) (hw : Ext w w') : Shp g e s w' := by
  obtain ⟨cur, hh, hs⟩ := h
  refine ⟨cur, ?_, hs⟩
  have hlt : g < w.heap.size := by
    rcases Nat.lt_or_ge g w.heap.size with hlt | hge
    · exact hlt
    · rw [Array.getElem?_eq_none hge] at hh; cases hh
  rw [Below.block hw g hlt]; exact hh
set_option maxRecDepth 100000 in
theorem OwnI.shp {w : World} {B g n c : Nat} {xs : List Int} (h : OwnI w B (.slice (some ⟨g, 0, none⟩) n c) xs) : Shp g 3 c w ∧ n = xs.length ∧ n ≤ c ∧ c ≤ maxLen ∧ B ≤ g ∧ BlkF w g n (fun j => .int .i64 (xs.getD j 0)) := by
  have h0 := h
  obtain ⟨h1, h2⟩ := h
  rcases h2 with ⟨e, _⟩ | ⟨g', cap, cur, e, hg, hh, hc, hm, hs, ht⟩
  · cases e
  · injection e with e1 e2 e3
    injection e1 with e1
    injection e1 with e1
    subst e1
    subst e2
    subst e3
    refine ⟨⟨cur, hh, by omega⟩, rfl, hc, hm, hg, ?_⟩
    by_cases hne : xs = []
    · subst hne
      have hlt : g < w.heap.size := by
        rcases Nat.lt_or_ge g w.heap.size with hlt | hge
        · exact hlt
        · rw [Array.getElem?_eq_none hge] at hh; cases hh
      exact ⟨hlt, fun o => by simp [World.frozen?, hh], fun o ho => by simp at ho⟩
    · obtain ⟨a, c', hv, _, _, _, hb⟩ := h0.val
      injection hv with v1 v2 v3
      obtain ⟨g2, hg2, _, hB⟩ := hb hne
      rw [← v1] at hg2
      injection hg2 with hg2
      injection hg2 with hg2
      subst hg2
      exact hB
set_option maxRecDepth 100000 in
/-- A block in which a list stands is a list of the call's own. -/
theorem Shp.own {w : World} {B g n c : Nat} {f : Nat → Value} {xs : List Int} (hs : Shp g 3 c w) (hB : BlkF w g n f) (hn : xs.length = n) (hf : ∀ (j : Nat) (x : Int), xs[j]? = some x → f j = .int .i64 x) (hg : B ≤ g) (hnc : n ≤ c) (hc : c ≤ maxLen) : OwnI w B (.slice (some ⟨g, 0, none⟩) n c) xs := by
  obtain ⟨cur, hh, hcs⟩ := hs
  subst hn
  refine ⟨by simp, .inr ⟨g, c, cur, rfl, hg, hh, hnc, hc, by omega, ?_⟩⟩
  refine List.ext_getElem? (fun j => ?_)
  rw [List.getElem?_take]
  by_cases hj : j < xs.length
  · rw [if_pos (by omega)]
    obtain ⟨x, hx⟩ := at_of_lt hj
    have h1 := hB.cell j hj
    rw [hf j x hx] at h1
    simp only [World.cell?, hh] at h1
    rw [List.getElem?_map, hx]
    simpa using h1
  · rw [if_neg (by omega), List.getElem?_eq_none (by rw [List.length_map]; omega)]

set_option maxRecDepth 100000 in
set_option maxHeartbeats 1000000 in
theorem cln_impl (w : World) (a : Option Addr) (c : Nat) (xs : List Int) (hR : RdI w a xs) (hl : xs.length ≤ 1000000) :
    Calls Tryz.prog 118 #[.slice a xs.length c] w fun e w' => ∃ v, e = .returned v ∧ OwnI w' w.heap.size v xs ∧ Ext w w' := by
  have hnil : ∀ (W : World) (a : Addr) (n c : Nat), (binOp .eql 36 (.slice (some a) n c) (.slice none 0 0)).run Tryz.prog W = .ok (.bool false) W := fun W a n c => Lib.run_eql_slice_some_nil W a n c Tryz.underlying36
  have hnn : ∀ (W : World) (n c : Nat), (binOp .eql 36 (.slice none n c) (.slice none 0 0)).run Tryz.prog W = .ok (.bool true) W := fun W n c => Lib.run_eql_slice_nil_nil W n c Tryz.underlying36
  cases a with
  | none =>
    have hx : xs = [] := by
      by_cases h : xs = []
      · exact h
      · obtain ⟨_, _, h, _⟩ := hR h
        cases h
    subst hx
    go_enter Tryz.func118, Tryz.ntmps118
    go_wp2
    go_ret
    exact ⟨_, rfl, OwnI.nil _ _, Ext.refl _⟩
  | some a =>
    have hO := OwnI.made0 w
    have hE := Ext.new w (.cells #[] 3)
    go_enter Tryz.func118, Tryz.ntmps118
    go_wp2_with (at_builtin; go_loud (refine wpList_appG w.heap.size _ rfl _ _ rfl _ [] xs rfl (by exact hO) hE.size (some a) _ c rfl rfl (hR.ext hE) (by simp; omega) ?_); intro v1 w3 hO3 hg3 _)
    go_ret
    refine ⟨_, rfl, hO3, Ext.grown hE hg3 (fun k hk => ownsRow_block hO k hk)⟩

set_option maxRecDepth 100000 in
theorem place_some {xs : List Int} {x : Int} (h : 0 ≤ placeI xs x) : ∃ i : Nat, placeI xs x = i ∧ i < xs.length ∧ xs[i]? = some x := by
  unfold placeI findI at h ⊢
  split at h
  · rename_i k hk
    rw [List.findIdx?_eq_some_iff_getElem] at hk
    obtain ⟨h1, h2, _⟩ := hk
    have h3 : x = xs[k] := by simpa using h2
    exact ⟨k, rfl, h1, by rw [List.getElem?_eq_getElem h1, ← h3]⟩
  · omega
set_option maxRecDepth 100000 in
theorem OwnI.some {w : World} {B : Nat} {v : Value} {xs : List Int} (h : OwnI w B v xs) (hne : 0 < xs.length) : ∃ g c, v = .slice (some ⟨g, 0, none⟩) xs.length c := by
  obtain ⟨a, c, hv, _, _, _, hb⟩ := h.val
  obtain ⟨g, hg, _⟩ := hb (fun e => by rw [e] at hne; simp at hne)
  exact ⟨g, c, by rw [hv, hg]⟩

set_option maxRecDepth 100000 in
set_option maxHeartbeats 4000000 in
theorem raise_impl (w : World) (a : Option Addr) (c n : Nat) (xs : List Int) (x : Int) (hx : rkOk n xs = true) (hxn : xs.length = n) (hR : RdI w a xs) (hc : n ≤ c) :
    Calls Tryz.prog 59 #[.slice a n c, .int .i64 x] w fun e w' => ∃ v, e = .returned (.tuple #[v, .bool (decide (1 ≤ placeI xs x))]) ∧ (1 ≤ placeI xs x → OwnI w' w.heap.size v (raiseL xs (placeI xs x).toNat)) ∧ Ext w w' := by
  have n5 : n ≤ 5 := by have := (rk_len hx).2; omega
  have n1 : 1 ≤ n := by
    have h := hx
    unfold rkOk at h
    simp only [Bool.and_eq_true] at h
    have := inR_iff.1 h.1; omega
  have hin : inR (n : Int) 1 5 = true := inR_iff.2 (by omega)
  have HXN := hide hxn
  have HX := hide hx
  have HP : Hid (∀ w', Ext w w' → Calls Tryz.prog 116 #[.slice a n c, .int .i64 x] w' fun e w'' => e = .returned (.int .i64 (placeI xs x)) ∧ Ext w' w'') := fun w' hw' => by
    have h := place_impl w' a c xs x (hR.ext hw') (by omega)
    rw [hxn] at h
    exact h
  have HC : Hid (∀ w', Ext w w' → Calls Tryz.prog 118 #[.slice a n c] w' fun e w'' => ∃ v, e = .returned v ∧ OwnI w'' w'.heap.size v xs ∧ Ext w' w'') := fun w' hw' => by
    have h := cln_impl w' a c xs (hR.ext hw') (by omega)
    rw [hxn] at h
    exact h
  clear hx hxn
  by_cases h1 : 1 ≤ placeI xs x
  · obtain ⟨i, hp, hi, hxi⟩ := place_some (xs := xs) (x := x) (by omega)
    obtain ⟨m, hm⟩ : ∃ m : Nat, i = m + 1 := ⟨i - 1, by omega⟩
    subst hm
    rw [HXN.out] at hi
    have HPL := hide hp
    have HDT : Hid (decide (1 ≤ placeI xs x) = true) := decide_eq_true h1
    rw [hp] at HP
    have HR : Hid (∀ j, j < n → (raiseL xs (m + 1)).getD j 0 = if j = m + 1 then xs.getD m 0 else if j = m then xs.getD (m + 1) 0 else xs.getD j 0) := fun j hj => raise_at (xs := xs) (i := m + 1) (by omega) (by rw [HXN.out]; exact hi) j (by rw [HXN.out]; exact hj)
    have HXI : Hid (xs.getD (m + 1) 0 = x) := hide (by simp [List.getD, hxi])
    obtain ⟨u, hu⟩ := at_of_lt (xs := xs) (k := m) (by rw [HXN.out]; omega)
    have HU : Hid (xs.getD m 0 = u) := hide (by simp [List.getD, hu])
    clear h1 hp hxi hu
    have t0 : ¬ ((m + 1 : Nat) : Int) < 1 := by omega
    have t1 : ¬ ((m : Int) + 1) < 1 := by omega
    go_enter Tryz.func59, Tryz.ntmps59
    go_wp2_with (first | (go_at_call 116; refine (HP.out _ (by repeat (first | exact Ext.refl _ | assumption | refine Ext.alloc ?_ _ | refine Ext.drew ?_ | refine Ext.trans ?_ (by assumption)))).mono ?_; rintro e w1 ⟨rfl, hw1⟩) | (go_at_call 117; refine (isRk_impl _ a c n xs HX.out (hR.ext (by repeat (first | exact Ext.refl _ | assumption | refine Ext.alloc ?_ _ | refine Ext.drew ?_ | refine Ext.trans ?_ (by assumption)))) HXN.out hc hin).mono ?_; rintro e w1 ⟨rfl, hw1⟩))
    have hw : Ext w w1 := (by repeat (first | exact Ext.refl _ | assumption | refine Ext.alloc ?_ _ | refine Ext.drew ?_ | refine Ext.trans ?_ (by assumption)))
    obtain ⟨wb, hwb⟩ : ∃ wb : World, wb = w1 := ⟨_, rfl⟩
    subst hwb
    clear hw1
    refine (HC.out _ hw).mono ?_
    rintro e w2 ⟨v, rfl, hv, hw2⟩
    obtain ⟨g, c2, rfl⟩ := hv.some (by rw [HXN.out]; omega)
    obtain ⟨hS, _, hnc, hcm, hg, hB⟩ := hv.shp
    rw [HXN.out] at hB hnc ⊢
    have hww : Ext w w2 := hw.trans hw2
    have hgw : w.heap.size ≤ g := Nat.le_trans hw.size hg
    have b0 := hB.cell (m + 1) hi
    have b1 := hB.cell m (by omega)
    rw [HXI.out] at b0
    rw [HU.out] at b1
    have z0 := hB.fr (m + 1)
    have z1 := hB.fr m
    have HB := hide hB
    have HS := hide hS
    clear hv hB hS hw2 HP HC
    have i1 : (m : Int) + 1 < (n : Int) := by omega
    have i2 : (0 : Int) ≤ (m : Int) + 1 := by omega
    have i3 : ((m : Int) + 1).toNat = m + 1 := by omega
    have i4 : m < n := by omega
    have i5 : m + 1 < n := by omega
    have j1 : (m : Int) + 1 - 1 = m := by omega
    have j2 : (-9223372036854775808 : Int) ≤ m ∧ (m : Int) ≤ 9223372036854775807 := by omega
    have y3 : wrap64 (m : Int) = m := IntWalk.wrap64_in _ j2
    have y4 : IntKind.i64.wrap (m : Int) = m := IntWalk.i64_in _ j2
    have y1 : wrap64 ((m : Int) + 1 - 1) = m := by rw [j1]; exact y3
    have y2 : IntKind.i64.wrap ((m : Int) + 1 - 1) = m := by rw [j1]; exact y4
    clear j1 j2
    go_wp2
    refine wp_region_X (by kernel_rfl) (by kernel_rfl) ?_
    repeat' (refine wpX_stepQ (fun K hK => ?_)
             go_simp
             try (rw [if_neg (by intro h; simp [undef] at h)])
             try split
             all_goals
               first
               | (refine hK _ ?_
                  clear hK K)
               | (apply Exists.intro
                  refine ⟨fun wq hwq => ?_, hK _ ?_⟩
                  · have hcq := hwq.cellS
                    go_simp
                    first
                    | exact ⟨Ext.refl _, rfl⟩
                  clear hK K))
    refine wpX_stepC rfl (by kernel_rfl) (fun K hK' wa hwa => ?_)
    have hca := hwa.cellS
    have hfa := hwa.frozenS
    go_simp
    refine hK' _ _ ?_
    clear hK' K hca hfa
    have hB1 := (HB.out.ext hwa).set m i4 (.int .i64 x)
    have hO1 : Only g w2 (wa.setCell ⟨g, m, none⟩ (.int .i64 x)) := (Only.of_ext hwa).setCell _ _
    have hS1 := (HS.out.ext hwa).setCell ⟨g, m, none⟩ (.int .i64 x)
    generalize wa.setCell ⟨g, m, none⟩ (.int .i64 x) = w5 at hB1 hO1 hS1 ⊢
    have c1 := hB1.cell (m + 1) i5
    rw [if_neg (by omega), HXI.out] at c1
    have g1 := hB1.fr (m + 1)
    have HB1 := hide hB1
    clear hB1 b0 b1 z0 z1
    repeat' (refine wpX_stepQ (fun K hK => ?_)
             go_simp
             try (rw [if_neg (by intro h; simp [undef] at h)])
             try split
             all_goals
               first
               | (refine hK _ ?_
                  clear hK K)
               | (apply Exists.intro
                  refine ⟨fun wq hwq => ?_, hK _ ?_⟩
                  · have hcq := hwq.cellS
                    go_simp
                    first
                    | exact ⟨Ext.refl _, rfl⟩
                  clear hK K))
    refine wpX_stepL rfl (by kernel_rfl) (by kernel_rfl) (by kernel_rfl) (fun K hK wz hwz => ?_)
    have hcz := hwz.cellS
    have hfz := hwz.frozenS
    go_simp
    refine hK _ _ ?_
    clear hK K
    go_wp2
    go_ret2
    have hB2 := (HB1.out.ext hwz).set (m + 1) i5 (.int .i64 u)
    have hO2 : Only g w2 (wz.setCell ⟨g, m + 1, none⟩ (.int .i64 u)) := (hO1.trans (Only.of_ext hwz)).setCell _ _
    have hS2 := (hS1.ext hwz).setCell ⟨g, m + 1, none⟩ (.int .i64 u)
    refine ⟨_, by rw [HDT.out]; rfl, fun _ => ?_, Only.ext hww hO2 hgw⟩
    rw [HPL.out, Int.toNat_natCast]
    refine Shp.own hS2 hB2 (by rw [raise_len, HXN.out]) (fun j y hy => ?_) hgw hnc hcm
    have hj := lt_of_at hy
    rw [raise_len, HXN.out] at hj
    have h2 : (raiseL xs (m + 1)).getD j 0 = y := by simp [List.getD, hy]
    rw [HR.out j hj] at h2
    rw [← h2]
    by_cases e1 : j = m + 1
    · rw [if_pos e1, if_pos e1, HU.out]
    · rw [if_neg e1, if_neg e1]
      by_cases e2 : j = m
      · rw [if_pos e2, if_pos e2, HXI.out]
      · rw [if_neg e2, if_neg e2]
  · have t0 : placeI xs x < 1 := by omega
    clear h1
    go_enter Tryz.func59, Tryz.ntmps59
    go_wp2_with (first | (go_at_call 116; refine (HP.out _ (by repeat (first | exact Ext.refl _ | assumption | refine Ext.alloc ?_ _ | refine Ext.drew ?_ | refine Ext.trans ?_ (by assumption)))).mono ?_; rintro e w1 ⟨rfl, hw1⟩) | (go_at_call 117; refine (isRk_impl _ a c n xs HX.out (hR.ext (by repeat (first | exact Ext.refl _ | assumption | refine Ext.alloc ?_ _ | refine Ext.drew ?_ | refine Ext.trans ?_ (by assumption)))) HXN.out hc hin).mono ?_; rintro e w1 ⟨rfl, hw1⟩))
    go_ret2
    exact ⟨.slice none 0 0, by rw [decide_eq_false (by omega)]; rfl, fun h => by omega, (by repeat (first | exact Ext.refl _ | assumption | refine Ext.alloc ?_ _ | refine Ext.drew ?_ | refine Ext.trans ?_ (by assumption)))⟩

set_option maxRecDepth 100000 in
/-- A list that is read appended to an empty one of the call's own: what was there stays. -/
theorem run_cpy (ws : World) (B g : Nat) (ty : TypeId) (hO : OwnI ws B (.slice (some ⟨g, 0, none⟩) 0 0) []) (hB : B ≤ ws.heap.size) (ax : Option Addr) (ys : List Int) (c : Nat) (hR : RdI ws ax ys) (hl : ys.length ≤ 100000) :
    ∃ v' w', (Builtin.append_ #[36, 36] ty #[.slice (some ⟨g, 0, none⟩) 0 0, .slice ax ys.length c]).run Tryz.prog ws = .ok v' w' ∧ OwnI w' B v' ys ∧ Ext ws w' := by
  obtain ⟨i0, hi, hz0, hz1, hz2⟩ := info_parts info_int
  by_cases hne : ys = []
  · subst hne
    exact ⟨_, ws, run_append_none ws B 36 ty 3 i0 1 Tryz.underlying36 hi _ 0 [] hO ax c, hO, Ext.refl _⟩
  · obtain ⟨b, off, rfl, hc⟩ := hR hne
    have hp : 0 < ys.length := List.length_pos_iff.2 hne
    have hcell : ∀ (j : Nat) u, (ys.map (Value.int .i64))[j]? = some u → ws.cell? ((⟨b, off, none⟩ : Addr).add j) = some u := fun j u hj => by
      rw [List.getElem?_map, Option.map_eq_some_iff] at hj
      obtain ⟨y, hy, rfl⟩ := hj
      have := hc j y hy
      by_cases hj0 : j = 0
      · subst hj0
        simpa [Addr.add] using this
      · simpa [Addr.add, hj0] using this
    obtain ⟨v', w', hr, h1, h2, h3⟩ := run_append_any (P := Tryz.prog) ws B 36 ty 3 i0 (.int .i64 0) 1 8 Tryz.underlying36 hi hz0 hz1 hz2 rfl (by decide) _ _ _ hO (some ⟨b, off, none⟩) ys.length c (ys.map (Value.int .i64)) (by simp)
      (fun _ => ⟨_, rfl, hcell⟩) (fun u hu => by
        obtain ⟨y, _, rfl⟩ := List.mem_map.1 hu
        rfl) (by unfold maxLen; simp; omega) (by simp; omega) hB
    have hr2 := run_append_grow (P := Tryz.prog) ws 36 ty 3 i0 (.int .i64 0) Tryz.underlying36 hi hz0 ⟨g, 0, none⟩ 0 0 [] (by simp) (fun j v h => by simp at h) ⟨b, off, none⟩ ys.length c (ys.map (Value.int .i64)) (by rw [hz1]; simp) hcell (by omega) (by simp; omega)
      (growslice_fits (by omega) (by rw [hz2]; omega))
    have hr' := hr
    rw [hr] at hr2
    injection hr2 with e1 e2
    refine ⟨v', w', hr', ?_, ?_⟩
    · have h1' : w'.ownsRow B 3 1 v' (0 + ys.length) ([] ++ ys.map (Value.int .i64)) := h1
      rw [Nat.zero_add, List.nil_append] at h1'
      exact h1'
    · rw [e2]
      exact ((Ext.refl ws).drew).alloc _
set_option maxRecDepth 100000 in
theorem oper_cpyI {o : Oper} {a : Act} {K : World → Act → Prop} (wq ws : World) (hws : Ext (wq.alloc (.cells #[] 3)) ws) (s x : Operand)
    (ho : o.op = .call { callee := .builtin .append, args := #[s, x], argTypes := #[36, 36] }) (ys : List Int) (ax : Option Addr) (n c : Nat) (hn : n = ys.length)
    (hs : a.eval s = .slice (some ⟨wq.heap.size, 0, none⟩) 0 0) (hx : a.eval x = .slice ax n c) (hR : RdI ws ax ys) (hl : ys.length ≤ 100000)
    (h : ∀ v' w', OwnI w' wq.heap.size v' ys → Ext ws w' → Ext ws w' ∧ K w' (a.put o.dst v')) : o.wp Tryz.prog a ws (fun a' w' => Ext ws w' ∧ K w' a') NoExit := by
  subst hn
  have hsz := hws.size
  have hs2 : (wq.alloc (.cells #[] 3)).heap.size = wq.heap.size + 1 := by simp
  obtain ⟨v', w', hr, h1, h2⟩ := run_cpy ws wq.heap.size wq.heap.size o.type ((OwnI.made0 wq).ext hws) (by omega) ax ys c hR hl
  unfold Oper.wp execOp
  simp only [ho, resolve, invoke, builtin, Sem.run_bind, Sem.run_pure, Result.andThen_ok, List.map_toArray, List.map_cons, List.map_nil, hs, hx, hr]
  exact h v' w' h1 h2

set_option maxRecDepth 100000 in
set_option maxHeartbeats 4000000 in
theorem rvs_impl (w : World) (g n c : Nat) (h : Nat → Int) (n1 : 1 ≤ n) (n5 : n ≤ 1000) (hB : BlkF w g n (fun t => .int .i64 (h t))) (hnc : n ≤ c) :
    Calls Tryz.prog 158 #[.slice (some ⟨g, 0, none⟩) n c] w fun e w' => e = .returned (.tuple #[]) ∧ BlkF w' g n (fun t => .int .i64 (h (n - 1 - t))) ∧ Only g w w' ∧ ∀ s, Shp g 3 s w → Shp g 3 s w' := by
  obtain ⟨m, rfl⟩ : ∃ m, n = m + 1 := ⟨n - 1, by omega⟩
  have y0 : wrap64 (((m + 1 : Nat) : Int) - 1) = (m : Int) := by rw [IntWalk.wrap64_in _ (by omega)]; omega
  go_enter Tryz.func158, Tryz.ntmps158
  go_wp2_with fail
  clear y0
  go_loopw [2, 3] (fun i j wr => ∃ k q : Nat, k + q = m ∧ k ≤ q + 1 ∧ i = .int .i64 k ∧ j = .int .i64 q ∧ BlkF wr g (m + 1) (fun t => .int .i64 (if t < k ∨ q < t then h (m - t) else h t)) ∧ Only g w wr ∧ Hid (∀ s, Shp g 3 s w → Shp g 3 s wr)) (fun i j _ => (intOf j - intOf i).toNat)
  case atStart => exact ⟨0, m, by omega, by omega, rfl, rfl, hB.congr (fun t ht => by rw [if_neg (by omega)]), Only.refl _ _, fun s hs => hs⟩
  case round =>
    clear hB
    obtain ⟨k, q, hkq, hle, rfl, rfl, hB, hw, hsh⟩ := hrel
    by_cases hlt : k < q
    · have t1 : (k : Int) < (q : Int) := by omega
      have i4 : k < m + 1 := by omega
      have i5 : q < m + 1 := by omega
      have i6 : (k : Int) < (m : Int) + 1 := by omega
      have i7 : (q : Int) < (m : Int) + 1 := by omega
      have b0 := hB.cell k i4
      have b1 := hB.cell q i5
      rw [if_neg (by omega)] at b0 b1
      obtain ⟨hk, hhk⟩ : ∃ hk, hk = h k := ⟨_, rfl⟩
      obtain ⟨hq, hhq⟩ : ∃ hq, hq = h q := ⟨_, rfl⟩
      rw [← hhk] at b0
      rw [← hhq] at b1
      have z0 := hB.fr k
      have z1 := hB.fr q
      have HB := hide hB
      have HK := hide hhk
      have HQ := hide hhq
      have hbl := hB.lt
      clear hB hhk hhq
      go_wp2
      refine wp_region_X (by kernel_rfl) (by kernel_rfl) ?_
      repeat' (refine wpX_stepQ (fun K hK => ?_)
               go_simp
               try (rw [if_neg (by intro h; simp [undef] at h)])
               try split
               all_goals
                 first
                 | (refine hK _ ?_
                    clear hK K)
                 | (apply Exists.intro
                    refine ⟨fun wq hwq => ?_, hK _ ?_⟩
                    · have hcq := hwq.cellS
                      go_simp
                      first
                      | exact ⟨Ext.refl _, rfl⟩
                    clear hK K))
      refine wpX_stepC rfl (by kernel_rfl) (fun K hK' wa hwa => ?_)
      have hca := hwa.cellS
      have hfa := hwa.frozenS
      go_simp
      refine hK' _ _ ?_
      clear hK' K hca hfa
      have hB1 := (HB.out.ext hwa).set k i4 (.int .i64 hq)
      have hO1 : Only g wr (wa.setCell ⟨g, k, none⟩ (.int .i64 hq)) := (Only.of_ext hwa).setCell _ _
      have hS1 : Hid (∀ s, Shp g 3 s w → Shp g 3 s (wa.setCell ⟨g, k, none⟩ (.int .i64 hq))) := fun s hs => ((hsh.out s hs).ext hwa).setCell ⟨g, k, none⟩ (.int .i64 hq)
      generalize wa.setCell ⟨g, k, none⟩ (.int .i64 hq) = w5 at hB1 hO1 hS1 ⊢
      have c1 := hB1.cell q i5
      rw [if_neg (by omega), if_neg (by omega), ← HQ.out] at c1
      have g1 := hB1.fr q
      have HB1 := hide hB1
      clear hB1 b0 b1 z0 z1
      repeat' (refine wpX_stepQ (fun K hK => ?_)
               go_simp
               try (rw [if_neg (by intro h; simp [undef] at h)])
               try split
               all_goals
                 first
                 | (refine hK _ ?_
                    clear hK K)
                 | (apply Exists.intro
                    refine ⟨fun wq hwq => ?_, hK _ ?_⟩
                    · have hcq := hwq.cellS
                      go_simp
                      first
                      | exact ⟨Ext.refl _, rfl⟩
                    clear hK K))
      refine wpX_stepL rfl (by kernel_rfl) (by kernel_rfl) (by kernel_rfl) (fun K hK wz hwz => ?_)
      have hcz := hwz.cellS
      have hfz := hwz.frozenS
      go_simp
      refine hK _ _ ?_
      clear hK K
      have y1 : wrap64 ((k : Int) + 1) = ((k + 1 : Nat) : Int) := by rw [IntWalk.wrap64_in _ (by omega)]; omega
      have y2 : wrap64 ((q : Int) - 1) = ((q - 1 : Nat) : Int) := by rw [IntWalk.wrap64_in _ (by omega)]; omega
      go_wp2
      clear y1 y2
      have hB2 := (HB1.out.ext hwz).set q i5 (.int .i64 hk)
      have hO2 : Only g wr (wz.setCell ⟨g, q, none⟩ (.int .i64 hk)) := (hO1.trans (Only.of_ext hwz)).setCell _ _
      refine ⟨⟨k + 1, q - 1, by omega, by omega, rfl, congrArg (Value.int .i64) (by omega), hB2.congr (fun t ht => ?_), hw.trans hO2, fun s hs => ((hS1.out s hs).ext hwz).setCell _ _⟩, by simp [intOf]; omega⟩
      by_cases e1 : t = q
      · subst e1
        rw [if_pos rfl, if_pos (by omega), HK.out, show m - t = k by omega]
      · rw [if_neg e1]
        by_cases e2 : t = k
        · subst e2
          rw [if_pos rfl, if_pos (by omega), HQ.out, show m - t = q by omega]
        · rw [if_neg e2]
          by_cases e3 : t < k ∨ q < t
          · rw [if_pos e3, if_pos (by omega)]
          · rw [if_neg e3, if_neg (by omega)]
    · have t1 : ¬ (k : Int) < (q : Int) := by omega
      go_wp2
      go_end0
      refine ⟨rfl, hB.congr (fun t ht => ?_), hw, hsh.out⟩
      try rw [show m + 1 - 1 - t = m - t by omega]
      by_cases e3 : t < k ∨ q < t
      · rw [if_pos e3]
      · rw [if_neg e3, show m - t = t by omega]

end Go.Proofs.YtilcdnkkabmbfaaGreat
