/- Votes in memory: parts of a list, votes that are copied as they are, and a ranking that is replaced. slices.Concat of two lists of votes. Drawn regions in an order of one's own, with a writing operation in the middle. A profile in which each ranking is changed, of the program. What the statement's reading of its arguments says of memory. -/
import Derived.Test.YtilcdnkkabmbfaaGreatCk18
import Derived.Test.YtilcdnkkabmbfaaGreatCk9
import Derived.Test.YtilcdnkkabmbfaaGreatCk13
import Derived.Test.YtilcdnkkabmbfaaGreatCk0
import Derived.Test.YtilcdnkkabmbfaaGreatCk14
import Derived.Test.YtilcdnkkabmbfaaGreatCk1
import Derived.ProofKit
import Derived.OpenShut
import Derived.ShutString
import Derived.ChangeOld
import Derived.Below
import Derived.Deep.Slices
import Derived.Deep.Fields
import Derived.ChangeSame
import Derived.Lib.SmallJoins
namespace Go.Proofs.YtilcdnkkabmbfaaGreat
open Go.RowKit

set_option maxRecDepth 100000 in
theorem RdV.take {w : World} {a : Option Addr} {vs : List Vt} (h : RdV w a vs) (k : Nat) : RdV w a (vs.take k) := fun hne => by
  obtain ⟨b, off, ha, hj⟩ := h (fun e => hne (by rw [e]; simp))
  refine ⟨b, off, ha, fun j e he => ?_⟩
  rw [List.getElem?_take] at he
  split at he
  · exact hj j e he
  · cases he
set_option maxRecDepth 100000 in
theorem RdV.drop {w : World} {b off n : Nat} {vs : List Vt} (h : RdV w (some ⟨b, off, none⟩) vs) (k c : Nat) (hc : vs.length ≤ c) (hn : n = off + k * 2) : RdV w (if c = k then some ⟨b, off, none⟩ else some ⟨b, n, none⟩) (vs.drop k) := fun hne => by
  have hk : k < vs.length := by
    rcases Nat.lt_or_ge k vs.length with h | h
    · exact h
    · exact absurd (List.drop_eq_nil_of_le h) hne
  obtain ⟨b', off', e, hc'⟩ := h (fun e => by rw [e] at hk; simp at hk)
  injection e with e
  injection e with e1 e2
  subst e1 e2
  rw [if_neg (by omega)]
  subst hn
  refine ⟨b, off + k * 2, rfl, fun j x hx => ?_⟩
  rw [List.getElem?_drop] at hx
  have h1 := hc' (k + j) x hx
  rw [show off + (k + j) * 2 = off + k * 2 + j * 2 by omega] at h1
  exact h1
/-- The rankings of these votes are read where they lie. -/
def ReadE (w : World) (es : List (RowE × Int)) : Prop := ∀ e ∈ es, e.1.n = e.1.xs.length ∧ e.1.n ≤ e.1.c ∧ RdI w e.1.a e.1.xs
set_option maxRecDepth 100000 in
theorem ReadE.nil (w : World) : ReadE w [] := fun e he => by cases he
set_option maxRecDepth 100000 in
theorem ReadE.ext {w w' : World} {es : List (RowE × Int)} (h : ReadE w es) (hw : Ext w w') : ReadE w' es := fun e he => ⟨(h e he).1, (h e he).2.1, (h e he).2.2.ext hw⟩
set_option maxRecDepth 100000 in
theorem ReadE.app {w : World} {es fs : List (RowE × Int)} (h : ReadE w es) (h2 : ReadE w fs) : ReadE w (es ++ fs) := fun e he => by
  rcases List.mem_append.1 he with he | he
  · exact h e he
  · exact h2 e he
set_option maxRecDepth 100000 in
theorem ents_of {w : World} : ∀ (vs : List Vt) (b off : Nat), (∀ (j : Nat) (x : Vt), vs[j]? = some x → ∃ a' c', w.cell? ⟨b, off + j * 2, none⟩ = some (.slice a' x.1.length c') ∧ w.cell? ⟨b, off + j * 2 + 1, none⟩ = some (.int .i64 x.2) ∧ x.1.length ≤ c' ∧ RdI w a' x.1) →
    ∃ es : List (RowE × Int), vtsOf es = vs ∧ ReadE w es ∧ ∀ (j : Nat) (u : Value), (vtL es)[j]? = some u → w.cell? ⟨b, off + j, none⟩ = some u
  | [], b, off, _ => ⟨[], rfl, ReadE.nil w, fun j u h => by simp [vtL] at h⟩
  | x :: xs, b, off, h => by
    obtain ⟨a', c', h0, h1, h2, h3⟩ := h 0 x rfl
    obtain ⟨es, e1, e2, e3⟩ := ents_of xs b (off + 2) (fun j y hy => by
      have := h (j + 1) y (by simpa using hy)
      rw [show off + 2 + j * 2 = off + (j + 1) * 2 by omega]; exact this)
    refine ⟨(⟨a', x.1.length, c', x.1⟩, x.2) :: es, by rw [← e1]; rfl, fun e he => ?_, fun j u hj => ?_⟩
    · rcases List.mem_cons.1 he with rfl | he
      · exact ⟨rfl, h2, h3⟩
      · exact e2 e he
    · have e : vtL ((⟨a', x.1.length, c', x.1⟩, x.2) :: es) = .slice a' x.1.length c' :: .int .i64 x.2 :: vtL es := rfl
      rw [e] at hj
      match j, hj with
      | 0, hj => simp at hj; subst hj; simpa using h0
      | 1, hj => simp at hj; subst hj; simpa using h1
      | j + 2, hj =>
        have h4 := e3 j u (by simpa using hj)
        rw [show off + (j + 2) = off + 2 + j by omega]; exact h4
/-- A part of a list of votes as it lies in memory. -/
def LayV (w : World) (a : Option Addr) (es : List (RowE × Int)) : Prop := es ≠ [] → ∃ b off, a = some ⟨b, off, none⟩ ∧ ∀ (j : Nat) (u : Value), (vtL es)[j]? = some u → w.cell? ⟨b, off + j, none⟩ = some u
set_option maxRecDepth 100000 in
theorem LayV.ext {w w' : World} {a : Option Addr} {es : List (RowE × Int)} (h : LayV w a es) (hw : Ext w w') : LayV w' a es := fun hne => by
  obtain ⟨b, off, ha, hc⟩ := h hne
  exact ⟨b, off, ha, fun j u hj => hw.keep (hc j u hj)⟩
set_option maxRecDepth 100000 in
theorem RdV.ents {w : World} {a : Option Addr} {vs : List Vt} (h : RdV w a vs) : ∃ es : List (RowE × Int), vtsOf es = vs ∧ es.length = vs.length ∧ ReadE w es ∧ LayV w a es := by
  by_cases hne : vs = []
  · subst hne
    exact ⟨[], rfl, rfl, ReadE.nil w, fun h => absurd rfl h⟩
  · obtain ⟨b, off, rfl, hc⟩ := h hne
    obtain ⟨es, e1, e2, e3⟩ := ents_of vs b off hc
    exact ⟨es, e1, by rw [← e1]; unfold vtsOf; rw [List.length_map], e2, fun _ => ⟨b, off, rfl, e3⟩⟩
set_option maxRecDepth 100000 in
theorem RowsV.rdR {w : World} {B : Nat} {a : Option Addr} {n c : Nat} {es : List (RowE × Int)} (h : RowsV w B (.slice a n c) es) (hf : ReadE w es) : RdV w a (vtsOf es) := fun hne => by
  have hne' : es ≠ [] := fun e => hne (by rw [e]; rfl)
  rcases h.val with ⟨_, he⟩ | ⟨g, c', hv, hc, hg, hB⟩
  · exact absurd he hne'
  · injection hv with h1 h2 h3
    subst h1
    refine ⟨g, 0, rfl, fun j x hx => ?_⟩
    unfold vtsOf at hx
    rw [List.getElem?_map, Option.map_eq_some_iff] at hx
    obtain ⟨e, he, rfl⟩ := hx
    have hl := lt_of_at he
    obtain ⟨c0, c1⟩ := vtL_at he
    obtain ⟨r1, r2, r3⟩ := hf e (List.mem_of_getElem? he)
    refine ⟨e.1.a, e.1.c, ?_, ?_, by rw [← r1]; exact r2, r3⟩
    · rw [Nat.zero_add, hB.cell _ (by omega), ← r1]
      simp [List.getD, c0, rowV]
    · rw [Nat.zero_add, hB.cell _ (by omega)]
      simp [List.getD, c1]
set_option maxRecDepth 100000 in
theorem RowsV.lenEq {w : World} {B : Nat} {a : Option Addr} {n c : Nat} {es : List (RowE × Int)} (h : RowsV w B (.slice a n c) es) : n = es.length ∧ n ≤ c := by
  rcases h.val with ⟨hv, he⟩ | ⟨g, c', hv, hc, _, _⟩
  · injection hv with h1 h2 h3
    subst h2
    subst he
    exact ⟨rfl, by omega⟩
  · injection hv with h1 h2 h3
    exact ⟨h2, by omega⟩
set_option maxRecDepth 100000 in
theorem vtL_app (es fs : List (RowE × Int)) : vtL (es ++ fs) = vtL es ++ vtL fs := by simp [vtL]
set_option maxRecDepth 100000 in
theorem vtL_one (es : List (RowE × Int)) : ∀ u ∈ vtL es, u.oneCell' = true := by
  intro u hu
  unfold vtL at hu
  rw [List.mem_flatMap] at hu
  obtain ⟨e, _, he⟩ := hu
  simp at he
  rcases he with rfl | rfl <;> rfl
set_option maxRecDepth 100000 in
/-- A list of votes appended to a list of the call's own. -/
theorem wpList_appVs {ops : Array Oper} {rest : List Oper} {o : Oper} {a : Act} {Q : Exit → Act → World → Prop} (B : Nat) (w3 : World) (hgd : o.guard = none) (s x : Operand)
    (ho : o.op = .call { callee := .builtin .append, args := #[s, x], argTypes := #[27, 27] }) (v : Value) (es ys : List (RowE × Int)) (hs : a.eval s = v) (hown : RowsV w3 B v es) (hB : B ≤ w3.heap.size)
    (ax : Option Addr) (n c : Nat) (hn : n = ys.length) (hx : a.eval x = .slice ax n c) (hR : LayV w3 ax ys) (hlen : es.length + ys.length ≤ 100000)
    (h : ∀ v' w', RowsV w' B v' (es ++ ys) → w3.grownBy w' v.ownBlock → Fresh w3 v v' → wpList Tryz.prog ops Q rest (a.put o.dst v') w') : wpList Tryz.prog ops Q (o :: rest) a w3 := by
  obtain ⟨i0, hi, hz0, hz1, hz2⟩ := info_parts info_v
  subst hn
  obtain ⟨v', w', hr, h1, h2, h3⟩ := run_append_any (P := Tryz.prog) w3 B 27 o.type 55 i0 (.agg #[.slice none 0 0, .int .i64 0]) 2 32 Tryz.underlying27 hi hz0 hz1 hz2 rfl (by decide) v es.length _ hown ax ys.length c (vtL ys) (vtL_len ys)
    (fun hne => by
      obtain ⟨b, off, rfl, hc⟩ := hR (fun e => hne (by rw [e]; rfl))
      refine ⟨_, rfl, fun j u hj => ?_⟩
      have := hc j u hj
      by_cases hj0 : j = 0
      · subst hj0
        simpa [Addr.add] using this
      · simpa [Addr.add, hj0] using this)
    (vtL_one ys) (by unfold maxLen; omega) (by omega) hB
  refine wpList_plain hgd fun K hK => ?_
  unfold Oper.wp execOp
  simp only [ho, resolve, invoke, builtin, Sem.run_bind, Sem.run_pure, Result.andThen_ok, List.map_toArray, List.map_cons, List.map_nil, hs, hx, hr]
  refine hK _ _ (h v' w' ?_ h2 h3)
  unfold RowsV
  rw [vtL_app, List.length_append]
  exact h1
set_option maxRecDepth 100000 in
theorem RowsV.own {w : World} {B g n c : Nat} {es : List (RowE × Int)} (h : RowsV w B (.slice (some ⟨g, 0, none⟩) n c) es) : BlkF w g (es.length * 2) (fun o => (vtL es).getD o undef) := by
  rcases h.val with ⟨hv, _⟩ | ⟨g', c', hv, _, _, hB⟩
  · cases hv
  · injection hv with h1 h2 h3
    injection h1 with h1
    injection h1 with h1
    subst h1
    exact hB
/-- Votes that are read, all in blocks from B on. -/
def FrV (w : World) (B : Nat) (a : Option Addr) (vs : List Vt) : Prop :=
  vs ≠ [] → ∃ b off, a = some ⟨b, off, none⟩ ∧ B ≤ b ∧ ∀ (j : Nat) (x : Vt), vs[j]? = some x → ∃ a' c', w.cell? ⟨b, off + j * 2, none⟩ = some (.slice a' x.1.length c') ∧
    w.cell? ⟨b, off + j * 2 + 1, none⟩ = some (.int .i64 x.2) ∧ x.1.length ≤ c' ∧ RdI w a' x.1 ∧ (x.1 ≠ [] → ∀ b2 off2, a' = some ⟨b2, off2, none⟩ → B ≤ b2)
set_option maxRecDepth 100000 in
theorem FrV.rd {w : World} {B : Nat} {a : Option Addr} {vs : List Vt} (h : FrV w B a vs) : RdV w a vs := fun hne => by
  obtain ⟨b, off, ha, _, hc⟩ := h hne
  refine ⟨b, off, ha, fun j x hx => ?_⟩
  obtain ⟨a', c', h0, h1, h2, h3, _⟩ := hc j x hx
  exact ⟨a', c', h0, h1, h2, h3⟩
set_option maxRecDepth 100000 in
theorem FrV.ext {w w' : World} {B : Nat} {a : Option Addr} {vs : List Vt} (h : FrV w B a vs) (hw : Ext w w') : FrV w' B a vs := fun hne => by
  obtain ⟨b, off, ha, hb, hc⟩ := h hne
  refine ⟨b, off, ha, hb, fun j x hx => ?_⟩
  obtain ⟨a', c', h0, h1, h2, h3, h4⟩ := hc j x hx
  exact ⟨a', c', hw.keep h0, hw.keep h1, h2, h3.ext hw, h4⟩
set_option maxRecDepth 100000 in
theorem FrV.only {w w' : World} {B g : Nat} {a : Option Addr} {vs : List Vt} (h : FrV w B a vs) (hg : g < B) (hw : Only g w w') : FrV w' B a vs := fun hne => by
  obtain ⟨b, off, ha, hb, hc⟩ := h hne
  refine ⟨b, off, ha, hb, fun j x hx => ?_⟩
  obtain ⟨a', c', h0, h1, h2, h3, h4⟩ := hc j x hx
  refine ⟨a', c', hw.keep (by dsimp only; omega) h0, hw.keep (by dsimp only; omega) h1, h2, ?_, h4⟩
  by_cases hx0 : x.1 = []
  · rw [hx0]; exact RdI.nil _ _
  · exact hw.rdI h3 (fun b2 off2 e => by have := h4 hx0 b2 off2 e; omega)
set_option maxRecDepth 100000 in
/-- One ranking is replaced. -/
theorem LstV.setRd {w : World} {B g n c : Nat} {es : List (RowE × Int)} (h : LstV w B (.slice (some ⟨g, 0, none⟩) n c) es) {k : Nat} {e : RowE × Int} (hk : es[k]? = some e) {au : Option Addr} {nu cu : Nat} {us : List Int} (hu : RdI w au us) (hn : nu = us.length) (hc : nu ≤ cu) (hug : us ≠ [] → ∀ b off, au = some ⟨b, off, none⟩ → B ≤ b ∧ b ≠ g) :
    FrV (w.setCell ⟨g, k * 2, none⟩ (.slice au nu cu)) B (some ⟨g, 0, none⟩) ((vtsOf es).set k (us, e.2)) ∧ Only g w (w.setCell ⟨g, k * 2, none⟩ (.slice au nu cu)) := by
  have hB := h.1.own
  have hBg : B ≤ g := (World.ownsRow.lt h.1 g rfl).1
  have hkl := lt_of_at hk
  have hS := hB.set (k * 2) (by omega) (.slice au nu cu)
  have hO : Only g w (w.setCell ⟨g, k * 2, none⟩ (.slice au nu cu)) := (Only.refl g w).setCell _ _
  generalize w.setCell ⟨g, k * 2, none⟩ (.slice au nu cu) = w' at hS hO
  refine ⟨fun _ => ⟨g, 0, rfl, hBg, fun j x hx => ?_⟩, hO⟩
  rw [List.getElem?_set] at hx
  by_cases hjk : k = j
  · subst hjk
    have hl : k < (vtsOf es).length := by unfold vtsOf; rw [List.length_map]; exact hkl
    rw [if_pos rfl, if_pos hl] at hx
    injection hx with hx
    subst hx
    obtain ⟨_, c1⟩ := vtL_at hk
    refine ⟨au, cu, ?_, ?_, by dsimp only; omega, ?_, fun hne b2 off2 e => (hug hne b2 off2 e).1⟩
    · rw [Nat.zero_add, hS.cell _ (by omega)]; simp [hn]
    · rw [Nat.zero_add, hS.cell _ (by omega)]
      simp [List.getD, c1]
    · by_cases hne : us = []
      · dsimp only; rw [hne]; exact RdI.nil _ _
      · exact hO.rdI hu (fun b2 off2 e => (hug hne b2 off2 e).2)
  · rw [if_neg hjk] at hx
    unfold vtsOf at hx
    rw [List.getElem?_map, Option.map_eq_some_iff] at hx
    obtain ⟨f, hf, rfl⟩ := hx
    have hl := lt_of_at hf
    obtain ⟨c0, c1⟩ := vtL_at hf
    have hO2 := h.2.1 f.1 (List.mem_map_of_mem (List.mem_of_getElem? hf))
    obtain ⟨a2, c2, hv2, hc2, _, hR2, hb2⟩ := hO2.val
    have hne3 := rowsV_ne h.1 h.2 f.1 (List.mem_map_of_mem (List.mem_of_getElem? hf))
    have hv2' := hv2
    unfold rowV at hv2
    injection hv2 with e1 e2 e3
    refine ⟨f.1.a, f.1.c, ?_, ?_, by rw [e3]; exact hc2, ?_, fun hne b2 off2 e => by
      obtain ⟨g2, ha2, hb3, _⟩ := hb2 hne
      rw [e1, ha2] at e
      injection e with e
      injection e with e
      omega⟩
    · rw [Nat.zero_add, hS.cell _ (by omega), ← e2]
      rw [if_neg (by omega)]
      simp [List.getD, c0, rowV]
    · rw [Nat.zero_add, hS.cell _ (by omega)]
      rw [if_neg (by omega)]
      simp [List.getD, c1]
    · rw [e1]
      by_cases hne : f.1.xs = []
      · rw [hne]; exact RdI.nil _ _
      · obtain ⟨g2, ha2, _, _⟩ := hb2 hne
        refine hO.rdI hR2 (fun b off hab hbg => ?_)
        rw [ha2] at hab
        injection hab with hab
        injection hab with hab
        rw [hv2', ha2] at hne3
        subst hbg
        subst hab
        rcases hne3 with h | h
        · cases h
        · exact h rfl
set_option maxRecDepth 100000 in
/-- The list of votes is a block if there is a vote. -/
theorem LstV.at0 {w : World} {B : Nat} {v : Value} {es : List (RowE × Int)} (h : LstV w B v es) (hne : es ≠ []) : ∃ g c, v = .slice (some ⟨g, 0, none⟩) es.length c ∧ es.length ≤ c ∧ B ≤ g ∧ g < w.heap.size := by
  rcases h.1.val with ⟨_, he⟩ | ⟨g, c, hv, hc, hg, hB⟩
  · exact absurd he hne
  · exact ⟨g, c, hv, hc, hg, hB.lt⟩
set_option maxRecDepth 100000 in
theorem LstV.rdV {w : World} {B : Nat} {a : Option Addr} {n c : Nat} {es : List (RowE × Int)} (h : LstV w B (.slice a n c) es) : RdV w a (vtsOf es) := h.1.rd (B' := B) h.2
set_option maxRecDepth 100000 in
theorem LstV.form {w : World} {B : Nat} {v : Value} {es : List (RowE × Int)} (h : LstV w B v es) : ∃ a c, v = .slice a es.length c ∧ es.length ≤ c := by
  rcases h.1.val with ⟨hv, he⟩ | ⟨g, c, hv, hc, _, _⟩
  · subst he; exact ⟨none, 0, hv, Nat.le_refl _⟩
  · exact ⟨_, c, hv, hc⟩
set_option maxRecDepth 100000 in
theorem vtsOf_len {es : List (RowE × Int)} {vs : List Vt} (h : vtsOf es = vs) : es.length = vs.length := by rw [← h]; unfold vtsOf; rw [List.length_map]
set_option maxRecDepth 100000 in
theorem vtsOf_at {es : List (RowE × Int)} {vs : List Vt} (h : vtsOf es = vs) {k : Nat} {x : Vt} (hx : vs[k]? = some x) : ∃ e, es[k]? = some e ∧ e.1.xs = x.1 ∧ e.2 = x.2 := by
  rw [← h] at hx
  unfold vtsOf at hx
  rw [List.getElem?_map, Option.map_eq_some_iff] at hx
  obtain ⟨e, he, rfl⟩ := hx
  exact ⟨e, he, rfl, rfl⟩

set_option maxRecDepth 100000 in
set_option maxHeartbeats 1000000 in
theorem growV_impl (w : World) (n : Nat) (hn : n ≤ 2000000) :
    Calls Tryz.prog 122 #[.slice none 0 0, .int .i64 n] w fun e w' => ∃ v, e = .returned v ∧ RowsV w' w.heap.size v [] ∧ Ext w w' := by
  obtain ⟨i0, hi, hz0, hz1, hz2⟩ := info_parts info_v
  by_cases h0 : n = 0
  · subst h0
    go_enter Tryz.func122, Tryz.ntmps122
    go_wp2
    go_ret
    exact ⟨_, rfl, RowsV.nil _ _, Ext.refl _⟩
  · obtain ⟨c, w', hr, hO, hE, hc⟩ := zeros_own (P := Tryz.prog) w 27 3 27 55 i0 (.agg #[.slice none 0 0, .int .i64 0]) 2 32 .i64 Tryz.underlying27 Tryz.underlying3 hi hz0 hz1 hz2 rfl (by decide) n (by omega) hn (by decide)
    have hc0 : c ≠ 0 := by omega
    have hn0 : (0 : Int) < n := by omega
    have HR := hide hr
    clear hr
    go_enter Tryz.func122, Tryz.ntmps122
    go_wp2_with (at_builtin; refine Lib.wpList_append_run _ rfl _ _ _ _ rfl _ _ rfl rfl _ _ HR.out ?_)
    go_ret
    exact ⟨_, rfl, hO, hE⟩

set_option maxRecDepth 100000 in
set_option maxHeartbeats 4000000 in
theorem catV_impl (w : World) (g : Nat) (a1 a2 : Option Addr) (c1 c2 : Nat) (xs ys : List (RowE × Int)) (c0 : w.cell? ⟨g, 0, none⟩ = some (.slice a1 xs.length c1)) (c1' : w.cell? ⟨g, 1, none⟩ = some (.slice a2 ys.length c2))
    (hR1 : LayV w a1 xs) (hR2 : LayV w a2 ys) (hl : xs.length + ys.length ≤ 1000) :
    Calls Tryz.prog 61 #[.slice (some ⟨g, 0, none⟩) 2 2] w fun e w' => ∃ v, e = .returned v ∧ RowsV w' w.heap.size v (xs ++ ys) ∧ Ext w w' := by
  have h1 := c0
  have h2 := c1'
  have y1 : wrap64 (0 + (xs.length : Int)) = (xs.length : Int) := by rw [IntWalk.wrap64_in _ (by omega)]; omega
  have y2 : wrap64 ((xs.length : Int) + (ys.length : Int)) = (xs.length : Int) + (ys.length : Int) := IntWalk.wrap64_in _ (by omega)
  have z1 : ¬ ((xs.length : Int) < 0) := by omega
  have z2 : ¬ ((xs.length : Int) + (ys.length : Int) < 0) := by omega
  go_enter Tryz.func61, Tryz.ntmps61
  go_wp2_with fail
  go_loopw [3, 5, 11] (fun s _ i wr => ((i = .int .i64 0 ∧ s = .int .i64 0) ∨ (i = .int .i64 1 ∧ s = .int .i64 xs.length) ∨ (i = .int .i64 2 ∧ s = .int .i64 ((xs.length : Int) + (ys.length : Int)))) ∧ wr = w) (fun _ _ i _ => 2 - (intOf i).toNat)
  case atStart => exact ⟨.inl ⟨rfl, rfl⟩, rfl⟩
  case round =>
    obtain ⟨⟨rfl, rfl⟩ | ⟨rfl, rfl⟩ | ⟨rfl, rfl⟩, rfl⟩ := hrel
    · go_wp2
      exact ⟨⟨.inr (.inl ⟨rfl, rfl⟩), trivial⟩, by simp [intOf]⟩
    · go_wp2
      exact ⟨⟨.inr (.inr ⟨rfl, rfl⟩), trivial⟩, by simp [intOf]⟩
    · obtain ⟨wo, hwo⟩ : ∃ wo : World, wo = wr := ⟨_, rfl⟩
      subst hwo
      have hg := growV_impl wo (xs.length + ys.length) (by omega)
      rw [Int.natCast_add] at hg
      have HG := hide hg
      clear hg
      go_wp2_with fail
      refine HG.out.mono ?_
      rintro e w1 ⟨v, rfl, hO, hw1⟩
      have h1 := hw1.keep h1
      have h2 := hw1.keep h2
      go_wp2_with fail
      go_loopw [6, 8, 27] (fun v _ i wq => ((i = .int .i64 0 ∧ RowsV wq wo.heap.size v []) ∨ (i = .int .i64 1 ∧ RowsV wq wo.heap.size v xs) ∨ (i = .int .i64 2 ∧ RowsV wq wo.heap.size v (xs ++ ys))) ∧ Ext wo wq ∧ wq.cell? ⟨g, 0, none⟩ = some (.slice a1 xs.length c1) ∧ wq.cell? ⟨g, 1, none⟩ = some (.slice a2 ys.length c2)) (fun _ _ i _ => 2 - (intOf i).toNat)
      case atStart => exact ⟨.inl ⟨rfl, hO⟩, hw1, h1, h2⟩
      case round =>
        clear hO hw1 h1 h2
        obtain ⟨⟨rfl, hO⟩ | ⟨rfl, hO⟩ | ⟨rfl, hO⟩, hw, h1, h2⟩ := hrel
        · go_wp2_with (at_builtin; go_loud (refine wpList_appVs wo.heap.size _ rfl _ _ rfl _ [] xs rfl (by exact hO) hw.size a1 xs.length c1 rfl rfl (hR1.ext hw) (by simp; omega) ?_); intro v1 w2 hO1 hg1 _)
          have hE := Ext.grown hw hg1 (ownsRow_block hO)
          exact ⟨⟨.inr (.inl ⟨rfl, hO1⟩), hE, hE.keep c0, hE.keep c1'⟩, by simp [intOf]⟩
        · go_wp2_with (at_builtin; go_loud (refine wpList_appVs wo.heap.size _ rfl _ _ rfl _ xs ys rfl (by exact hO) hw.size a2 ys.length c2 rfl rfl (hR2.ext hw) (by omega) ?_); intro v1 w2 hO1 hg1 _)
          have hE := Ext.grown hw hg1 (ownsRow_block hO)
          exact ⟨⟨.inr (.inr ⟨rfl, hO1⟩), hE, hE.keep c0, hE.keep c1'⟩, by simp [intOf]⟩
        · go_wp2
          go_ret
          exact ⟨_, rfl, hO, hw⟩

section
variable {P : Program} {ops : Array Oper}
/-- As wpO, and a step that writes, before or behind all others. -/
def wpP (P : Program) (ops : Array Oper) (Q : Act → World → Prop) : List Nat → Array Bool → World → Act → Prop
  | [], _, W, a => ∀ w, Ext W w → Q a w
  | i :: rest, listed, W, a => ∃ o, ops[i]? = some o ∧
    ((∃ v, YX P ops W o v a ∧ wpP P ops Q rest (listed.setIfInBounds i true) W (a.put o.dst v)) ∨
    (Region.ready .any ops listed = [i] ∧ ∀ w, Ext W w → wpOp P ops NoExit i (fun a' w' => Ext w w' ∧ wpP P ops Q rest (listed.setIfInBounds i true) w' a') a w) ∨
    (Region.ready .any ops listed = [i] ∧ lastB .any ops i = true ∧ Region.ready .any ops (listed.setIfInBounds i true) = [] ∧ ∀ w, Ext W w → wpOp P ops NoExit i (fun a' w' => Q a' w') a w) ∨
    (Region.ready .any ops listed = [i] ∧ cutB .any ops i = true ∧ ∀ w, Ext W w → wpOp P ops NoExit i (fun a' w' => wpP P ops Q rest (listed.setIfInBounds i true) w' a') a w))

set_option maxRecDepth 100000 in
theorem wpP_any {Q : Act → World → Prop} (hs : Region.noSelect ops = true) : ∀ (l : List Nat) (listed : Array Bool) (W : World) (a : Act),
    Closed .any ops listed → ordB ops l listed = true → wpP P ops Q l listed W a → wpAnyX P .any ops Q l.length listed W a
  | [], _, _, _, _, hB, h => ⟨by simpa [ordB] using hB, h⟩
  | i :: l, listed, W, a, hcl, hB, h => by
    simp only [ordB, Bool.and_eq_true] at hB
    obtain ⟨⟨hr, hf⟩, hB'⟩ := hB
    have hcl' := hcl.set (j := i) (by simpa using hr)
    obtain ⟨o, h0, h⟩ := h
    rcases h with ⟨v, hy, hK⟩ | ⟨hsole', hK⟩ | ⟨hsole', hlast, hend, hK⟩ | ⟨hsole', hcut, hK⟩
    · exact wpAnyX_first h0 (Region.noSelect_spec hs) l.length _ W a (Region.free_spec h0 hf) hcl (by simpa using hr) hy (wpP_any hs l _ W _ hcl' hB' hK)
    · refine ⟨fun h => (by rw [h] at hsole'; cases hsole'), fun j hj w hw => ?_⟩
      have hik : j = i := by rw [hsole'] at hj; simpa using hj
      subst hik
      exact wpOp_mono (fun a' w' h3 => .inl ⟨h3.1, wpP_any hs l _ w' a' hcl' hB' h3.2⟩) (hK w hw)
    · refine ⟨fun h => (by rw [h] at hsole'; cases hsole'), fun j hj w hw => ?_⟩
      have hik : j = i := by rw [hsole'] at hj; simpa using hj
      subst hik
      exact wpOp_mono (fun a' w' h3 => .inr (.inl ⟨hlast, hend, h3⟩)) (hK w hw)
    · refine ⟨fun h => (by rw [h] at hsole'; cases hsole'), fun j hj w hw => ?_⟩
      have hik : j = i := by rw [hsole'] at hj; simpa using hj
      subst hik
      exact wpOp_mono (fun a' w' h3 => .inr (.inr ⟨hcut, wpP_any hs l _ w' a' hcl' hB' h3⟩)) (hK w hw)

set_option maxRecDepth 100000 in
theorem wp_region_P {id : Nat} {Q : Exit → Act → World → Prop} {a : Act} {w : World} {l : List Oper} (is : List Nat) (hm : P.follows .mixedOrders = true) (hlen : is.length = l.length)
    (hB : (Region.noSelect l.toArray && ordB l.toArray is (Array.replicate l.length false)) = true)
    (h : wpP P l.toArray (fun a' w' => Q .normal a' w') is (Array.replicate l.length false) w a) : (Code.region id l.toArray true).wp P Q a w := by
  simp only [Bool.and_eq_true] at hB
  have key : ∀ (l' : List Nat) (listed : Array Bool) (a : Act), wpP P l.toArray (fun a' w' => Q .normal a' w') l' listed w a → wpP P l.toArray (fun a' w' => Q .normal a' w') l' listed w.drew a := by
    intro l'
    induction l' with
    | nil => intro listed a h w' hw'; exact h w' (((Ext.refl w).drew).trans hw')
    | cons i l' ih =>
      intro listed a h
      obtain ⟨o, h0, h⟩ := h
      refine ⟨o, h0, ?_⟩
      rcases h with ⟨v, hy, hK⟩ | ⟨hs, hK⟩ | ⟨hs, h1, h2, hK⟩ | ⟨hs, h1, hK⟩
      · exact .inl ⟨v, hy.mono ((Ext.refl w).drew), ih _ _ hK⟩
      · exact .inr (.inl ⟨hs, fun w' hw' => hK w' (((Ext.refl w).drew).trans hw')⟩)
      · exact .inr (.inr (.inl ⟨hs, h1, h2, fun w' hw' => hK w' (((Ext.refl w).drew).trans hw')⟩))
      · exact .inr (.inr (.inr ⟨hs, h1, fun w' hw' => hK w' (((Ext.refl w).drew).trans hw')⟩))
  have h1 := wpP_any (P := P) (Q := fun a' w' => Q .normal a' w') hB.1 is _ w.drew a (Closed.start _ _ _) hB.2 (key is _ a h)
  rw [hlen] at h1
  exact wp_region_any hm (wpAny_of_X (fun _ _ h => h) _ _ _ _ (by simpa using h1))

set_option maxRecDepth 100000 in
theorem wpP_stepQ {Q : Act → World → Prop} {o : Oper} {i : Nat} {rest : List Nat} {listed : Array Bool} {W : World} {a : Act} (h0 : ops[i]? = some o)
    (h : ∀ K : Act → Prop, (∀ a, wpP P ops Q rest (listed.setIfInBounds i true) W a → K a) → if Region.wanted o (yielded ops a.tmps) then ∃ v, QX P W o a v ∧ K (a.put o.dst v) else K (a.put o.dst undef)) : wpP P ops Q (i :: rest) listed W a := by
  have h1 := h _ (fun _ h => h)
  refine ⟨o, h0, .inl ?_⟩
  by_cases hw : Region.wanted o (yielded ops a.tmps) = true
  · simp only [hw, if_true] at h1
    obtain ⟨v, hq, hK⟩ := h1
    exact ⟨v, .inl ⟨hw, hq⟩, hK⟩
  · simp only [hw] at h1
    exact ⟨undef, .inr ⟨by simpa using hw, rfl⟩, h1⟩

set_option maxRecDepth 100000 in
theorem wpP_stepS {Q : Act → World → Prop} {o : Oper} {i : Nat} {rest : List Nat} {listed : Array Bool} {W : World} {a : Act} (h0 : ops[i]? = some o) (hs : (Region.ready .any ops listed == [i]) = true)
    (h : ∀ K : World → Act → Prop, (∀ W a, wpP P ops Q rest (listed.setIfInBounds i true) W a → K W a) → ∀ w, Ext W w →
      if Region.wanted o (yielded ops a.tmps) then o.wp P a w (fun a' w' => Ext w w' ∧ K w' a') NoExit else K w (a.put o.dst undef)) : wpP P ops Q (i :: rest) listed W a := by
  refine ⟨o, h0, .inr (.inl ⟨by simpa using hs, fun w hw' => ?_⟩)⟩
  have h1 := h _ (fun _ _ h => h) w hw'
  unfold wpOp
  simp only [h0]
  by_cases hw : Region.wanted o (yielded ops a.tmps) = true
  · simp only [hw, if_true] at h1 ⊢
    exact .inl h1
  · simp only [hw] at h1 ⊢
    exact ⟨Ext.refl _, h1⟩

set_option maxRecDepth 100000 in
theorem wpP_stepC {Q : Act → World → Prop} {o : Oper} {i : Nat} {rest : List Nat} {listed : Array Bool} {W : World} {a : Act} (h0 : ops[i]? = some o) (hs : (Region.ready .any ops listed == [i] && cutB .any ops i) = true)
    (h : ∀ K : World → Act → Prop, (∀ W a, wpP P ops Q rest (listed.setIfInBounds i true) W a → K W a) → ∀ w, Ext W w →
      if Region.wanted o (yielded ops a.tmps) then o.wp P a w (fun a' w' => K w' a') NoExit else K w (a.put o.dst undef)) : wpP P ops Q (i :: rest) listed W a := by
  rw [Bool.and_eq_true] at hs
  refine ⟨o, h0, .inr (.inr (.inr ⟨by simpa using hs.1, hs.2, fun w hw' => ?_⟩))⟩
  have h1 := h _ (fun _ _ h => h) w hw'
  unfold wpOp
  simp only [h0]
  by_cases hw : Region.wanted o (yielded ops a.tmps) = true
  · simp only [hw, if_true] at h1 ⊢
    exact .inl h1
  · simp only [hw] at h1 ⊢
    exact h1

set_option maxRecDepth 100000 in
theorem wpP_stepL {Q : Act → World → Prop} {o : Oper} {i : Nat} {rest : List Nat} {listed : Array Bool} {W : World} {a : Act} (h0 : ops[i]? = some o) (hs : (Region.ready .any ops listed == [i]) = true) (hl : lastB .any ops i = true)
    (he : (Region.ready .any ops (listed.setIfInBounds i true)).isEmpty = true)
    (h : ∀ K : Act → World → Prop, (∀ a w, Q a w → K a w) → ∀ w, Ext W w → if Region.wanted o (yielded ops a.tmps) then o.wp P a w K NoExit else K (a.put o.dst undef) w) : wpP P ops Q (i :: rest) listed W a := by
  refine ⟨o, h0, .inr (.inr (.inl ⟨by simpa using hs, hl, List.isEmpty_iff.1 he, fun w hw' => ?_⟩))⟩
  have h1 := h _ (fun _ _ h => h) w hw'
  unfold wpOp
  simp only [h0]
  by_cases hw : Region.wanted o (yielded ops a.tmps) = true
  · simp only [hw, if_true] at h1 ⊢
    exact .inl h1
  · simp only [hw] at h1 ⊢
    exact h1

set_option maxRecDepth 100000 in
theorem wpP_nil {Q : Act → World → Prop} {listed : Array Bool} {W : World} {a : Act} (h : ∀ w, Ext W w → Q a w) : wpP P ops Q [] listed W a := h
end

def boxF (s : Int) (v : Value) (o : Nat) : Value := if o = 0 then .int .i64 s else if o = 1 then v else undef

set_option maxRecDepth 100000 in
set_option maxHeartbeats 4000000 in
theorem chg_impl (K : Nat) (fst cap : Array Value) (F : List Int → List Int) (w : World) (sz s2 : Int) (a : Option Addr) (c : Nat) (vs : List Vt) (hR : RdV w a vs) (h0 : profOk sz vs = true) (hK : Enters Tryz.prog K)
    (hf : ∀ (x : Vt) (a' : Option Addr) (c' : Nat) (w' : World), x ∈ vs → Ext w w' → RdI w' a' x.1 → x.1.length ≤ c' → Calls Tryz.prog K (fst.push (.slice a' x.1.length c') ++ cap) w' fun e w'' => ∃ u, e = .returned u ∧ OwnI w'' w'.heap.size u (F x.1) ∧ Ext w' w'') :
    Calls Tryz.prog 54 #[.agg #[.int .i64 sz, .slice a vs.length c], .int .i64 s2, .func (.func K) fst cap] w fun e w' => ∃ v es, e = .returned (.tuple #[.agg #[.int .i64 s2, v], .bool true]) ∧ LstV w' w.heap.size v es ∧ vtsOf es = vs.map (fun x => (F x.1, x.2)) ∧ Ext w w' := by
  unfold Enters at hK
  have HF := hide hf
  clear hf
  have hvl := (prof_small h0).1
  have q0 := new0 w (.int .i64 sz) [.slice a vs.length c] 29
  have q1 := new1 w (.int .i64 sz) (.slice a vs.length c) [] 29
  have hs1 : (w.alloc (.cells #[.int .i64 sz, .slice a vs.length c] 29)).heap.size = w.heap.size + 1 := by simp
  have p0 := BlkF.new (w.alloc (.cells #[.int .i64 sz, .slice a vs.length c] 29)) #[.int .i64 0, .slice none 0 0] 29
  rw [hs1] at p0
  have P0 := hide p0
  clear p0 hs1
  go_enter Tryz.func54, Tryz.ntmps54
  go_wp2_with (go_at_call 36; refine (prof_impl _ _ _ _ _ (hR.ext (by repeat (first | exact Ext.refl _ | assumption | refine Ext.alloc ?_ _ | refine Ext.drew ?_ | refine Ext.trans ?_ (by assumption))))).mono ?_; rintro e w1 ⟨rfl, hw1⟩; have q0 := Ext.keep (w' := w1) (by repeat (first | exact Ext.refl _ | assumption | refine Ext.alloc ?_ _ | refine Ext.drew ?_ | refine Ext.trans ?_ (by assumption))) q0; have q1 := Ext.keep (w' := w1) (by repeat (first | exact Ext.refl _ | assumption | refine Ext.alloc ?_ _ | refine Ext.drew ?_ | refine Ext.trans ?_ (by assumption))) q1)
  have P1 := hide (P0.out.ext hw1)
  have hw : Ext w w1 := (by repeat (first | exact Ext.refl _ | assumption | refine Ext.alloc ?_ _ | refine Ext.drew ?_ | refine Ext.trans ?_ (by assumption)))
  clear P0 hw1
  obtain ⟨wb, hwb⟩ : ∃ wb : World, wb = w1 := ⟨_, rfl⟩
  subst hwb
  have hB := (BlkF.new wb #[.int .i64 s2, .slice none 0 0] 29).congr (f' := boxF s2 (.slice none 0 0)) (fun o ho => by
    match o, ho with
    | 0, _ => rfl
    | 1, _ => rfl)
  have hE0 := Ext.new wb (.cells #[.int .i64 s2, .slice none 0 0] 29)
  have hlt := hB.lt
  generalize wb.alloc (.cells #[.int .i64 s2, .slice none 0 0] 29) = W0 at hB hE0 hlt ⊢
  obtain ⟨H, hH⟩ : ∃ H : Nat, H = W0.heap.size := ⟨_, rfl⟩
  obtain ⟨g, hg⟩ : ∃ g : Nat, g = wb.heap.size := ⟨_, rfl⟩
  rw [← hg] at hB hlt ⊢
  rw [← hH] at hlt
  have hgw : w.heap.size ≤ g := by rw [hg]; exact hw.size
  have hHs : H ≤ W0.heap.size := by omega
  have hgb : wb.heap.size ≤ g := by omega
  have hB := hB.congr (f' := boxF s2 (.slice none 0 0)) (fun _ _ => rfl)
  clear hH hg
  go_wp2_with fail
  go_loopw [10, 20] (fun _ i wr => ∃ (k : Nat) (v : Value) (es : List (RowE × Int)), k ≤ vs.length ∧ i = .int .i64 k ∧ BlkF wr g 2 (boxF s2 v) ∧ LstV wr H v es ∧ Hid (vtsOf es = (vs.take k).map (fun x => (F x.1, x.2))) ∧ H ≤ wr.heap.size ∧ Ext wb wr) (fun _ i _ => vs.length - (intOf i).toNat)
  case atStart => exact ⟨0, _, [], Nat.zero_le _, rfl, hB, LstV.nil _ _, rfl, hHs, hE0⟩
  case round =>
    clear hB hE0 hHs
    obtain ⟨k, v, es, hk, rfl, hB, hl, hmap, hHs, hwr⟩ := hrel
    have b0 := hB.cell 0 (by omega)
    have b1 := hB.cell 1 (by omega)
    have hb0 : boxF s2 v 0 = .int .i64 s2 := rfl
    have hb1 : boxF s2 v 1 = v := rfl
    rw [hb0] at b0
    rw [hb1] at b1
    by_cases hkt : k < vs.length
    · obtain ⟨x, hx⟩ := at_of_lt hkt
      obtain ⟨b, off, a', c', rfl, c0, c1, hc', hRx⟩ := (hR.ext (hw.trans hwr)).at_ hx
      have hel : es.length ≤ 24 := by
        have h1 := congrArg List.length hmap.out
        unfold vtsOf at h1
        rw [List.length_map, List.length_map, List.length_take] at h1
        omega
      have HC := hide (fun w' (hw' : Ext wr w') => HF.out x a' c' w' (List.mem_of_getElem? hx) ((hw.trans hwr).trans hw') (hRx.ext hw') hc')
      have HN : Hid (∀ (u : RowE), u.xs = F x.1 → vtsOf (es ++ [(u, x.2)]) = (vs.take (k + 1)).map (fun x => (F x.1, x.2))) := fun u hu => by
        rw [take_at hx, List.map_append, ← hmap.out]
        simp [vtsOf, hu]
      have HL := hide hl
      have HB := hide hB
      clear hx hRx hl hB hb0 hb1
      go_wp2
      refine wp_region_P [0,1,2,3,4,6,7,5,8,9,10,11,12] (by kernel_rfl) rfl (by kernel_rfl) ?_
      repeat' (refine wpP_stepQ rfl (fun K hK => ?_)
               go_simp
               try (rw [if_neg (by intro h; simp [undef] at h)])
               try split
               all_goals
                 first
                 | (refine hK _ ?_
                    clear hK K)
                 | (apply Exists.intro
                    refine ⟨fun wq hwq => ?_, hK _ ?_⟩
                    · have hcq := hwq.cellS
                      go_simp
                      first
                      | exact ⟨Ext.refl _, rfl⟩
                    clear hK K))
      refine wpP_stepS rfl (by kernel_rfl) (fun K hK wq hwq => ?_)
      go_simp
      refine (HC.out _ (by repeat (first | exact Ext.refl _ | assumption | refine Ext.alloc ?_ _ | refine Ext.drew ?_ | refine Ext.trans ?_ (by assumption)))).mono ?_
      rintro e w3 ⟨u, rfl, hu, hw3⟩
      refine ⟨hw3, hK _ _ ?_⟩
      clear hK K
      obtain ⟨a5, n5, c5, rfl⟩ := hu.form
      have hEy : Ext wr wq := (by repeat (first | exact Ext.refl _ | assumption | refine Ext.alloc ?_ _ | refine Ext.drew ?_ | refine Ext.trans ?_ (by assumption)))
      obtain ⟨wy, hwy⟩ : ∃ wy : World, wy = wq := ⟨_, rfl⟩
      subst hwy
      repeat' (refine wpP_stepQ rfl (fun K hK => ?_)
               go_simp
               try (rw [if_neg (by intro h; simp [undef] at h)])
               try split
               all_goals
                 first
                 | (refine hK _ ?_
                    clear hK K)
                 | (apply Exists.intro
                    refine ⟨fun wq hwq => ?_, hK _ ?_⟩
                    · have hcq := hwq.cellS
                      go_simp
                      first
                      | exact ⟨Ext.refl _, rfl⟩
                    clear hK K))
      refine wpP_stepS rfl (by kernel_rfl) (fun K hK wq hwq => ?_)
      go_simp
      refine ⟨(by repeat (first | exact Ext.refl _ | assumption | refine Ext.alloc ?_ _ | refine Ext.drew ?_ | refine Ext.trans ?_ (by assumption))), hK _ _ ?_⟩
      clear hK K
      refine wpP_stepC rfl (by kernel_rfl) (fun K hK' wa hwa => ?_)
      refine Eq.mpr (if_pos rfl) ?_
      have hEa : Ext wr wa := (by repeat (first | exact Ext.refl _ | assumption | refine Ext.alloc ?_ _ | refine Ext.drew ?_ | refine Ext.trans ?_ (by assumption)))
      have hLa := HL.out.ext hEa
      refine oper_appV H wa _ _ rfl v es (⟨a5, n5, c5, F x.1⟩, x.2) _ rfl hLa.1 (Nat.le_trans hHs hEa.size) rfl (hwa.keep (new0 wq _ _ _)) (hwa.keep (new1 wq _ _ _ _)) (by omega) ?_
      intro v' w4 hown4 hg4 hf4
      have hro : ∀ b, v.ownBlock = some b → H ≤ b := fun b hb => (World.ownsRow.lt HL.out.1 b hb).1
      have hB4 := (HB.out.ext hEa).grown hg4 (fun b hb => by have := hro b hb; omega)
      have hE4 : Ext wb w4 := Ext.grown (hwr.trans hEa) hg4 (fun b hb => by have := hro b hb; omega)
      have hL4 := HL.out.push (u := ⟨a5, n5, c5, F x.1⟩) (k := x.2) hHs hEy hu ((hwq.alloc _).trans hwa) hEa hown4 hg4
      have z1 := hB4.fr 1
      have d1 := hB4.cell 1 (by omega)
      rw [show boxF s2 v 1 = v from rfl] at d1
      have hsz4 := Nat.le_trans hHs (Nat.le_trans hEa.size hg4.size)
      obtain ⟨av, nv, cv, rfl⟩ : ∃ av nv cv, v' = .slice av nv cv := by
        rcases hL4.1.val with ⟨h, _⟩ | ⟨g9, c9, h, _⟩
        · exact ⟨_, _, _, h⟩
        · exact ⟨_, _, _, h⟩
      have HL4 := hide hL4
      have HB4 := hide hB4
      clear hLa hro hown4 hg4 hf4 hL4 hB4 hEa hu hwa hwq hw3 b0 b1 c0 c1
      refine hK' _ _ ?_
      clear hK' K
      repeat' (refine wpP_stepQ rfl (fun K hK => ?_)
               go_simp
               try (rw [if_neg (by intro h; simp [undef] at h)])
               try split
               all_goals
                 first
                 | (refine hK _ ?_
                    clear hK K)
                 | (apply Exists.intro
                    refine ⟨fun wq hwq => ?_, hK _ ?_⟩
                    · have hcq := hwq.cellS
                      go_simp
                      first
                      | exact ⟨Ext.refl _, rfl⟩
                    clear hK K))
      refine wpP_stepL rfl (by kernel_rfl) (by kernel_rfl) (by kernel_rfl) (fun K hK wz hwz => ?_)
      have hcz := hwz.cellS
      have hfz := hwz.frozenS
      go_simp
      refine hK _ _ ?_
      clear hK K
      go_wp2
      have hOg : Only g wz (wz.setCell ⟨g, 1, none⟩ (.slice av nv cv)) := (Only.refl g wz).setCell 1 _
      refine ⟨⟨k + 1, .slice av nv cv, es ++ [(⟨a5, n5, c5, F x.1⟩, x.2)], by omega, by go_num, ?_, (HL4.out.ext hwz).only hlt hOg, HN.out _ rfl, ?_, Only.ext (hE4.trans hwz) hOg hgb⟩, by simp [intOf]; omega⟩
      · refine ((HB4.out.ext hwz).set 1 (by omega) _).congr (fun o ho => ?_)
        match o, ho with
        | 0, _ => rfl
        | 1, _ => rfl
      · exact Nat.le_trans hsz4 (Nat.le_trans hwz.size hOg.size)
    · have HM : Hid (vtsOf es = vs.map (fun x => (F x.1, x.2))) := hide (by rw [hmap.out, List.take_of_length_le (by omega)])
      have HL := hide hl
      have p1 := P1.out.ext hwr
      have r0 := p1.cell 0 (by simp)
      have r1 := p1.cell 1 (by simp)
      have z0 := p1.fr 0
      have z1 := p1.fr 1
      obtain ⟨av, nv, cv, rfl⟩ : ∃ av nv cv, v = .slice av nv cv := by
        rcases hl.1.val with ⟨h, _⟩ | ⟨g9, c9, h, _⟩
        · exact ⟨_, _, _, h⟩
        · exact ⟨_, _, _, h⟩
      have hww := hw.trans hwr
      have hp8 : w.heap.size + 1 < H := by have := P1.out.lt; omega
      clear hl hB p1 hmap hb0 hb1
      go_wp2
      have hO1 : Only (w.heap.size + 1) wr ((wr.setCell ⟨w.heap.size + 1, 0, none⟩ (.int .i64 s2)).setCell ⟨w.heap.size + 1, 1, none⟩ (.slice av nv cv)) := ((Only.refl _ wr).setCell 0 _).setCell 1 _
      refine bodyPost_ret (v := .tuple #[.agg #[.int .i64 s2, .slice av nv cv], .bool true]) (by simp [results, Tryz.results54, go_sem, r0, r1]) rfl ⟨_, es, rfl, (HL.out.only hp8 hO1).base (by omega), HM.out, Only.ext hww hO1 (by omega)⟩

open Go.ChangeShapes Go.WideShapes Go.ChangeAt Go.RowKit Go.Joins Go.Deep

section
variable {H : Type} {enc : TypeId × Value → H} {P : Program} {w : World} {base : Nat} {spare : Nat → Bool} {held : Bool}
set_option maxRecDepth 100000 in
theorem open_slice_fields {t e : TypeId} {fs : Array Field} {fuel : Nat} {cs : List Value} {x : DataW H × List MemPlace} (ht : P.underlying t = some (.slice e)) (he : P.underlying e = some (.struct fs))
    (hone : oneCellFields P fs = true) (hC : P.cellsOf e = fs.size) (h : DataW.trod enc P w base spare held fuel t cs = some x) :
    (cs = [.slice none 0 0] ∧ x = (.nil, [])) ∨
    ∃ (a : Addr) (len cap m : Nat), cs = [.slice (some a) len cap] ∧ base ≤ a.block ∧ len ≤ cap ∧ cap ≤ maxLen ∧ len ≤ m ∧
      ∀ i, i < m → ∃ (ys : List (DataW H × List MemPlace)) (n : Nat), ys.length = fs.size ∧
        ∀ (j : Nat) (f : Field), fs[j]? = some f → ∃ (v : Value) (y : DataW H × List MemPlace), w.cell? (a.add (i * fs.size + j)) = some v ∧ ys[j]? = some y ∧ DataW.trod enc P w base spare held n f.type [v] = some y := by
  rcases open_slice ht h with h0 | ⟨a, len, cap, m, n, D, Pl, hcs, hb, hl, hm, hmm, hx, hi⟩
  · exact .inl h0
  · refine .inr ⟨a, len, cap, m, hcs, hb, hl, hm, by rw [hmm]; split <;> omega, fun i him => ?_⟩
    obtain ⟨cs', hc, ht'⟩ := hi i him
    rw [hC] at hc
    obtain ⟨ys, n', hn', hy, hlen, hyl, hf⟩ := DataW.trod_struct he ht'
    obtain ⟨_, hcl, hat⟩ := World.cells?_some hc
    refine ⟨ys, n', hyl, fun j f hj => ?_⟩
    obtain ⟨ho, hk⟩ := hone_of hone j f hj
    have hjl : j < fs.size := (Array.getElem?_eq_some_iff.1 hj).1
    have hcell := hat j hjl
    have hv : cs'[j]? = some (cs'[j]'(by omega)) := List.getElem?_eq_getElem (by omega)
    have h1 := hf j f hj
    rw [ho, hk] at h1
    have hone' : (cs'.drop j).take 1 = [cs'[j]'(by omega)] := by
      rw [List.drop_eq_getElem_cons (by omega)]
      rfl
    rw [hone'] at h1
    have hys : ys[j]? = some (ys[j]'(by omega)) := List.getElem?_eq_getElem (by omega)
    refine ⟨_, _, ?_, hys, h1.trans hys⟩
    rw [← Go.Deep.add_add, hcell, hv]
end

set_option maxRecDepth 100000 in
/-- A list of n elements with a property each. -/
theorem list_of {α : Type} (p : Nat → α → Prop) : ∀ n : Nat, (∀ i, i < n → ∃ x, p i x) → ∃ xs : List α, xs.length = n ∧ ∀ i x, xs[i]? = some x → p i x
  | 0, _ => ⟨[], rfl, fun i x h => by simp at h⟩
  | n + 1, h => by
    obtain ⟨xs, hl, hx⟩ := list_of p n (fun i hi => h i (by omega))
    obtain ⟨y, hy⟩ := h n (by omega)
    refine ⟨xs ++ [y], by simp [hl], fun i x hi => ?_⟩
    by_cases e : i < n
    · rw [List.getElem?_append_left (by omega)] at hi
      exact hx i x hi
    · by_cases e2 : i = n
      · subst e2
        rw [List.getElem?_append_right (by omega), hl] at hi
        simp at hi
        subst hi
        exact hy
      · rw [List.getElem?_append_right (by omega), List.getElem?_eq_none (by simp; omega)] at hi
        cases hi

set_option maxRecDepth 100000 in
theorem addr_add_none {b off : Nat} (k : Nat) : (Addr.add ⟨b, off, none⟩ k) = ⟨b, off + k, none⟩ := by
  unfold Addr.add
  split <;> simp_all

set_option maxRecDepth 100000 in
theorem own : ownKnob Tryz.prog.godebug = Option.none := by kernel_rfl
set_option maxRecDepth 100000 in
theorem laidOut : laidOutB Tryz.prog = true := by kernel_rfl

end Go.Proofs.YtilcdnkkabmbfaaGreat
