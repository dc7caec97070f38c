/- Votes in memory: parts of a list, votes that are copied as they are, and a ranking that is replaced. slices.Concat of two lists of integers. All orders of a list: the two ways of naming them answer alike (plain law). A row appended to an own matrix, with the frame told. All rankings, as the spec draws them. All rankings of the spec, from the start. -/
import Derived.Test.YtafdedgckbhhjaaCk10
import Derived.Lib.AppendZeros
import Derived.Test.YtafdedgckbhhjaaCk7
import Derived.Test.YtafdedgckbhhjaaCk6
import Derived.Test.YtafdedgckbhhjaaCk4
import Derived.Test.YtafdedgckbhhjaaCk2
namespace Go.Proofs.Ytafdedgckbhhjaa
open Go.RowKit

set_option maxRecDepth 100000 in
theorem RdV.take {w : World} {a : Option Addr} {vs : List Vt} (h : RdV w a vs) (k : Nat) : RdV w a (vs.take k) := fun hne => by
  obtain ⟨b, off, ha, hj⟩ := h (fun e => hne (by rw [e]; simp))
  refine ⟨b, off, ha, fun j e he => ?_⟩
  rw [List.getElem?_take] at he
  split at he
  · exact hj j e he
  · cases he
set_option maxRecDepth 100000 in
theorem RdV.drop {w : World} {b off n : Nat} {vs : List Vt} (h : RdV w (some ⟨b, off, none⟩) vs) (k c : Nat) (hc : vs.length ≤ c) (hn : n = off + k * 2) : RdV w (if c = k then some ⟨b, off, none⟩ else some ⟨b, n, none⟩) (vs.drop k) := fun hne => by
  have hk : k < vs.length := by
    rcases Nat.lt_or_ge k vs.length with h | h
    · exact h
    · exact absurd (List.drop_eq_nil_of_le h) hne
  obtain ⟨b', off', e, hc'⟩ := h (fun e => by rw [e] at hk; simp at hk)
  injection e with e
  injection e with e1 e2
  subst e1 e2
  rw [if_neg (by omega)]
  subst hn
  refine ⟨b, off + k * 2, rfl, fun j x hx => ?_⟩
  rw [List.getElem?_drop] at hx
  have h1 := hc' (k + j) x hx
  rw [show off + (k + j) * 2 = off + k * 2 + j * 2 by omega] at h1
  exact h1
/-- The rankings of these votes are read where they lie. -/
def ReadE (w : World) (es : List (RowE × Int)) : Prop := ∀ e ∈ es, e.1.n = e.1.xs.length ∧ e.1.n ≤ e.1.c ∧ RdI w e.1.a e.1.xs
set_option maxRecDepth 100000 in
theorem ReadE.nil (w : World) : ReadE w [] := fun e he => by cases he
set_option maxRecDepth 100000 in
theorem ReadE.ext {w w' : World} {es : List (RowE × Int)} (h : ReadE w es) (hw : Ext w w') : ReadE w' es := fun e he => ⟨(h e he).1, (h e he).2.1, (h e he).2.2.ext hw⟩
set_option maxRecDepth 100000 in
theorem ReadE.app {w : World} {es fs : List (RowE × Int)} (h : ReadE w es) (h2 : ReadE w fs) : ReadE w (es ++ fs) := fun e he => by
  rcases List.mem_append.1 he with he | he
  · exact h e he
  · exact h2 e he
set_option maxRecDepth 100000 in
theorem ents_of {w : World} : ∀ (vs : List Vt) (b off : Nat), (∀ (j : Nat) (x : Vt), vs[j]? = some x → ∃ a' c', w.cell? ⟨b, off + j * 2, none⟩ = some (.slice a' x.1.length c') ∧ w.cell? ⟨b, off + j * 2 + 1, none⟩ = some (.int .i64 x.2) ∧ x.1.length ≤ c' ∧ RdI w a' x.1) →
    ∃ es : List (RowE × Int), vtsOf es = vs ∧ ReadE w es ∧ ∀ (j : Nat) (u : Value), (vtL es)[j]? = some u → w.cell? ⟨b, off + j, none⟩ = some u
  | [], b, off, _ => ⟨[], rfl, ReadE.nil w, fun j u h => by simp [vtL] at h⟩
  | x :: xs, b, off, h => by
    obtain ⟨a', c', h0, h1, h2, h3⟩ := h 0 x rfl
    obtain ⟨es, e1, e2, e3⟩ := ents_of xs b (off + 2) (fun j y hy => by
      have := h (j + 1) y (by simpa using hy)
      rw [show off + 2 + j * 2 = off + (j + 1) * 2 by omega]; exact this)
    refine ⟨(⟨a', x.1.length, c', x.1⟩, x.2) :: es, by rw [← e1]; rfl, fun e he => ?_, fun j u hj => ?_⟩
    · rcases List.mem_cons.1 he with rfl | he
      · exact ⟨rfl, h2, h3⟩
      · exact e2 e he
    · have e : vtL ((⟨a', x.1.length, c', x.1⟩, x.2) :: es) = .slice a' x.1.length c' :: .int .i64 x.2 :: vtL es := rfl
      rw [e] at hj
      match j, hj with
      | 0, hj => simp at hj; subst hj; simpa using h0
      | 1, hj => simp at hj; subst hj; simpa using h1
      | j + 2, hj =>
        have h4 := e3 j u (by simpa using hj)
        rw [show off + (j + 2) = off + 2 + j by omega]; exact h4
/-- A part of a list of votes as it lies in memory. -/
def LayV (w : World) (a : Option Addr) (es : List (RowE × Int)) : Prop := es ≠ [] → ∃ b off, a = some ⟨b, off, none⟩ ∧ ∀ (j : Nat) (u : Value), (vtL es)[j]? = some u → w.cell? ⟨b, off + j, none⟩ = some u
set_option maxRecDepth 100000 in
theorem LayV.ext {w w' : World} {a : Option Addr} {es : List (RowE × Int)} (h : LayV w a es) (hw : Ext w w') : LayV w' a es := fun hne => by
  obtain ⟨b, off, ha, hc⟩ := h hne
  exact ⟨b, off, ha, fun j u hj => hw.keep (hc j u hj)⟩
set_option maxRecDepth 100000 in
theorem RdV.ents {w : World} {a : Option Addr} {vs : List Vt} (h : RdV w a vs) : ∃ es : List (RowE × Int), vtsOf es = vs ∧ es.length = vs.length ∧ ReadE w es ∧ LayV w a es := by
  by_cases hne : vs = []
  · subst hne
    exact ⟨[], rfl, rfl, ReadE.nil w, fun h => absurd rfl h⟩
  · obtain ⟨b, off, rfl, hc⟩ := h hne
    obtain ⟨es, e1, e2, e3⟩ := ents_of vs b off hc
    exact ⟨es, e1, by rw [← e1]; unfold vtsOf; rw [List.length_map], e2, fun _ => ⟨b, off, rfl, e3⟩⟩
set_option maxRecDepth 100000 in
theorem RowsV.rdR {w : World} {B : Nat} {a : Option Addr} {n c : Nat} {es : List (RowE × Int)} (h : RowsV w B (.slice a n c) es) (hf : ReadE w es) : RdV w a (vtsOf es) := fun hne => by
  have hne' : es ≠ [] := fun e => hne (by rw [e]; rfl)
  rcases h.val with ⟨_, he⟩ | ⟨g, c', hv, hc, hg, hB⟩
  · exact absurd he hne'
  · injection hv with h1 h2 h3
    subst h1
    refine ⟨g, 0, rfl, fun j x hx => ?_⟩
    unfold vtsOf at hx
    rw [List.getElem?_map, Option.map_eq_some_iff] at hx
    obtain ⟨e, he, rfl⟩ := hx
    have hl := lt_of_at he
    obtain ⟨c0, c1⟩ := vtL_at he
    obtain ⟨r1, r2, r3⟩ := hf e (List.mem_of_getElem? he)
    refine ⟨e.1.a, e.1.c, ?_, ?_, by rw [← r1]; exact r2, r3⟩
    · rw [Nat.zero_add, hB.cell _ (by omega), ← r1]
      simp [List.getD, c0, rowV]
    · rw [Nat.zero_add, hB.cell _ (by omega)]
      simp [List.getD, c1]
set_option maxRecDepth 100000 in
theorem RowsV.lenEq {w : World} {B : Nat} {a : Option Addr} {n c : Nat} {es : List (RowE × Int)} (h : RowsV w B (.slice a n c) es) : n = es.length ∧ n ≤ c := by
  rcases h.val with ⟨hv, he⟩ | ⟨g, c', hv, hc, _, _⟩
  · injection hv with h1 h2 h3
    subst h2
    subst he
    exact ⟨rfl, by omega⟩
  · injection hv with h1 h2 h3
    exact ⟨h2, by omega⟩
set_option maxRecDepth 100000 in
theorem vtL_app (es fs : List (RowE × Int)) : vtL (es ++ fs) = vtL es ++ vtL fs := by simp [vtL]
set_option maxRecDepth 100000 in
theorem vtL_one (es : List (RowE × Int)) : ∀ u ∈ vtL es, u.oneCell' = true := by
  intro u hu
  unfold vtL at hu
  rw [List.mem_flatMap] at hu
  obtain ⟨e, _, he⟩ := hu
  simp at he
  rcases he with rfl | rfl <;> rfl
set_option maxRecDepth 100000 in
/-- A list of votes appended to a list of the call's own. -/
theorem wpList_appVs {ops : Array Oper} {rest : List Oper} {o : Oper} {a : Act} {Q : Exit → Act → World → Prop} (B : Nat) (w3 : World) (hgd : o.guard = none) (s x : Operand)
    (ho : o.op = .call { callee := .builtin .append, args := #[s, x], argTypes := #[26, 26] }) (v : Value) (es ys : List (RowE × Int)) (hs : a.eval s = v) (hown : RowsV w3 B v es) (hB : B ≤ w3.heap.size)
    (ax : Option Addr) (n c : Nat) (hn : n = ys.length) (hx : a.eval x = .slice ax n c) (hR : LayV w3 ax ys) (hlen : es.length + ys.length ≤ 100000)
    (h : ∀ v' w', RowsV w' B v' (es ++ ys) → w3.grownBy w' v.ownBlock → Fresh w3 v v' → wpList Try.prog ops Q rest (a.put o.dst v') w') : wpList Try.prog ops Q (o :: rest) a w3 := by
  obtain ⟨i0, hi, hz0, hz1, hz2⟩ := info_parts info_v
  subst hn
  obtain ⟨v', w', hr, h1, h2, h3⟩ := run_append_any (P := Try.prog) w3 B 26 o.type 52 i0 (.agg #[.slice none 0 0, .int .i64 0]) 2 32 Try.underlying26 hi hz0 hz1 hz2 rfl (by decide) v es.length _ hown ax ys.length c (vtL ys) (vtL_len ys)
    (fun hne => by
      obtain ⟨b, off, rfl, hc⟩ := hR (fun e => hne (by rw [e]; rfl))
      refine ⟨_, rfl, fun j u hj => ?_⟩
      have := hc j u hj
      by_cases hj0 : j = 0
      · subst hj0
        simpa [Addr.add] using this
      · simpa [Addr.add, hj0] using this)
    (vtL_one ys) (by unfold maxLen; omega) (by omega) hB
  refine wpList_plain hgd fun K hK => ?_
  unfold Oper.wp execOp
  simp only [ho, resolve, invoke, builtin, Sem.run_bind, Sem.run_pure, Result.andThen_ok, List.map_toArray, List.map_cons, List.map_nil, hs, hx, hr]
  refine hK _ _ (h v' w' ?_ h2 h3)
  unfold RowsV
  rw [vtL_app, List.length_append]
  exact h1
set_option maxRecDepth 100000 in
theorem RowsV.own {w : World} {B g n c : Nat} {es : List (RowE × Int)} (h : RowsV w B (.slice (some ⟨g, 0, none⟩) n c) es) : BlkF w g (es.length * 2) (fun o => (vtL es).getD o undef) := by
  rcases h.val with ⟨hv, _⟩ | ⟨g', c', hv, _, _, hB⟩
  · cases hv
  · injection hv with h1 h2 h3
    injection h1 with h1
    injection h1 with h1
    subst h1
    exact hB
/-- Votes that are read, all in blocks from B on. -/
def FrV (w : World) (B : Nat) (a : Option Addr) (vs : List Vt) : Prop :=
  vs ≠ [] → ∃ b off, a = some ⟨b, off, none⟩ ∧ B ≤ b ∧ ∀ (j : Nat) (x : Vt), vs[j]? = some x → ∃ a' c', w.cell? ⟨b, off + j * 2, none⟩ = some (.slice a' x.1.length c') ∧
    w.cell? ⟨b, off + j * 2 + 1, none⟩ = some (.int .i64 x.2) ∧ x.1.length ≤ c' ∧ RdI w a' x.1 ∧ (x.1 ≠ [] → ∀ b2 off2, a' = some ⟨b2, off2, none⟩ → B ≤ b2)
set_option maxRecDepth 100000 in
theorem FrV.rd {w : World} {B : Nat} {a : Option Addr} {vs : List Vt} (h : FrV w B a vs) : RdV w a vs := fun hne => by
  obtain ⟨b, off, ha, _, hc⟩ := h hne
  refine ⟨b, off, ha, fun j x hx => ?_⟩
  obtain ⟨a', c', h0, h1, h2, h3, _⟩ := hc j x hx
  exact ⟨a', c', h0, h1, h2, h3⟩
set_option maxRecDepth 100000 in
theorem FrV.ext {w w' : World} {B : Nat} {a : Option Addr} {vs : List Vt} (h : FrV w B a vs) (hw : Ext w w') : FrV w' B a vs := fun hne => by
  obtain ⟨b, off, ha, hb, hc⟩ := h hne
  refine ⟨b, off, ha, hb, fun j x hx => ?_⟩
  obtain ⟨a', c', h0, h1, h2, h3, h4⟩ := hc j x hx
  exact ⟨a', c', hw.keep h0, hw.keep h1, h2, h3.ext hw, h4⟩
set_option maxRecDepth 100000 in
theorem FrV.only {w w' : World} {B g : Nat} {a : Option Addr} {vs : List Vt} (h : FrV w B a vs) (hg : g < B) (hw : Only g w w') : FrV w' B a vs := fun hne => by
  obtain ⟨b, off, ha, hb, hc⟩ := h hne
  refine ⟨b, off, ha, hb, fun j x hx => ?_⟩
  obtain ⟨a', c', h0, h1, h2, h3, h4⟩ := hc j x hx
  refine ⟨a', c', hw.keep (by dsimp only; omega) h0, hw.keep (by dsimp only; omega) h1, h2, ?_, h4⟩
  by_cases hx0 : x.1 = []
  · rw [hx0]; exact RdI.nil _ _
  · exact hw.rdI h3 (fun b2 off2 e => by have := h4 hx0 b2 off2 e; omega)
set_option maxRecDepth 100000 in
/-- One ranking is replaced. -/
theorem LstV.setRd {w : World} {B g n c : Nat} {es : List (RowE × Int)} (h : LstV w B (.slice (some ⟨g, 0, none⟩) n c) es) {k : Nat} {e : RowE × Int} (hk : es[k]? = some e) {au : Option Addr} {nu cu : Nat} {us : List Int} (hu : RdI w au us) (hn : nu = us.length) (hc : nu ≤ cu) (hug : us ≠ [] → ∀ b off, au = some ⟨b, off, none⟩ → B ≤ b ∧ b ≠ g) :
    FrV (w.setCell ⟨g, k * 2, none⟩ (.slice au nu cu)) B (some ⟨g, 0, none⟩) ((vtsOf es).set k (us, e.2)) ∧ Only g w (w.setCell ⟨g, k * 2, none⟩ (.slice au nu cu)) := by
  have hB := h.1.own
  have hBg : B ≤ g := (World.ownsRow.lt h.1 g rfl).1
  have hkl := lt_of_at hk
  have hS := hB.set (k * 2) (by omega) (.slice au nu cu)
  have hO : Only g w (w.setCell ⟨g, k * 2, none⟩ (.slice au nu cu)) := (Only.refl g w).setCell _ _
  generalize w.setCell ⟨g, k * 2, none⟩ (.slice au nu cu) = w' at hS hO
  refine ⟨fun _ => ⟨g, 0, rfl, hBg, fun j x hx => ?_⟩, hO⟩
  rw [List.getElem?_set] at hx
  by_cases hjk : k = j
  · subst hjk
    have hl : k < (vtsOf es).length := by unfold vtsOf; rw [List.length_map]; exact hkl
    rw [if_pos rfl, if_pos hl] at hx
    injection hx with hx
    subst hx
    obtain ⟨_, c1⟩ := vtL_at hk
    refine ⟨au, cu, ?_, ?_, by dsimp only; omega, ?_, fun hne b2 off2 e => (hug hne b2 off2 e).1⟩
    · rw [Nat.zero_add, hS.cell _ (by omega)]; simp [hn]
    · rw [Nat.zero_add, hS.cell _ (by omega)]
      simp [List.getD, c1]
    · by_cases hne : us = []
      · dsimp only; rw [hne]; exact RdI.nil _ _
      · exact hO.rdI hu (fun b2 off2 e => (hug hne b2 off2 e).2)
  · rw [if_neg hjk] at hx
    unfold vtsOf at hx
    rw [List.getElem?_map, Option.map_eq_some_iff] at hx
    obtain ⟨f, hf, rfl⟩ := hx
    have hl := lt_of_at hf
    obtain ⟨c0, c1⟩ := vtL_at hf
    have hO2 := h.2.1 f.1 (List.mem_map_of_mem (List.mem_of_getElem? hf))
    obtain ⟨a2, c2, hv2, hc2, _, hR2, hb2⟩ := hO2.val
    have hne3 := rowsV_ne h.1 h.2 f.1 (List.mem_map_of_mem (List.mem_of_getElem? hf))
    have hv2' := hv2
    unfold rowV at hv2
    injection hv2 with e1 e2 e3
    refine ⟨f.1.a, f.1.c, ?_, ?_, by rw [e3]; exact hc2, ?_, fun hne b2 off2 e => by
      obtain ⟨g2, ha2, hb3, _⟩ := hb2 hne
      rw [e1, ha2] at e
      injection e with e
      injection e with e
      omega⟩
    · rw [Nat.zero_add, hS.cell _ (by omega), ← e2]
      rw [if_neg (by omega)]
      simp [List.getD, c0, rowV]
    · rw [Nat.zero_add, hS.cell _ (by omega)]
      rw [if_neg (by omega)]
      simp [List.getD, c1]
    · rw [e1]
      by_cases hne : f.1.xs = []
      · rw [hne]; exact RdI.nil _ _
      · obtain ⟨g2, ha2, _, _⟩ := hb2 hne
        refine hO.rdI hR2 (fun b off hab hbg => ?_)
        rw [ha2] at hab
        injection hab with hab
        injection hab with hab
        rw [hv2', ha2] at hne3
        subst hbg
        subst hab
        rcases hne3 with h | h
        · cases h
        · exact h rfl
set_option maxRecDepth 100000 in
/-- The list of votes is a block if there is a vote. -/
theorem LstV.at0 {w : World} {B : Nat} {v : Value} {es : List (RowE × Int)} (h : LstV w B v es) (hne : es ≠ []) : ∃ g c, v = .slice (some ⟨g, 0, none⟩) es.length c ∧ es.length ≤ c ∧ B ≤ g ∧ g < w.heap.size := by
  rcases h.1.val with ⟨_, he⟩ | ⟨g, c, hv, hc, hg, hB⟩
  · exact absurd he hne
  · exact ⟨g, c, hv, hc, hg, hB.lt⟩
set_option maxRecDepth 100000 in
theorem LstV.rdV {w : World} {B : Nat} {a : Option Addr} {n c : Nat} {es : List (RowE × Int)} (h : LstV w B (.slice a n c) es) : RdV w a (vtsOf es) := h.1.rd (B' := B) h.2
set_option maxRecDepth 100000 in
theorem LstV.form {w : World} {B : Nat} {v : Value} {es : List (RowE × Int)} (h : LstV w B v es) : ∃ a c, v = .slice a es.length c ∧ es.length ≤ c := by
  rcases h.1.val with ⟨hv, he⟩ | ⟨g, c, hv, hc, _, _⟩
  · subst he; exact ⟨none, 0, hv, Nat.le_refl _⟩
  · exact ⟨_, c, hv, hc⟩
set_option maxRecDepth 100000 in
theorem vtsOf_len {es : List (RowE × Int)} {vs : List Vt} (h : vtsOf es = vs) : es.length = vs.length := by rw [← h]; unfold vtsOf; rw [List.length_map]
set_option maxRecDepth 100000 in
theorem vtsOf_at {es : List (RowE × Int)} {vs : List Vt} (h : vtsOf es = vs) {k : Nat} {x : Vt} (hx : vs[k]? = some x) : ∃ e, es[k]? = some e ∧ e.1.xs = x.1 ∧ e.2 = x.2 := by
  rw [← h] at hx
  unfold vtsOf at hx
  rw [List.getElem?_map, Option.map_eq_some_iff] at hx
  obtain ⟨e, he, rfl⟩ := hx
  exact ⟨e, he, rfl, rfl⟩

set_option maxRecDepth 100000 in
theorem zeros_own {P : Program} (w : World) (t tn ty e : TypeId) (i : TypeInfo) (z : Value) (size bytes : Nat) (kn : IntKind) (ht : P.underlying t = some (.slice e)) (htn : P.underlying tn = some (.int kn)) (hi : P.info? e = some i) (hz : i.zero = some z)
    (hsize : i.size = size) (hby : i.bytes = bytes) (hzs : z.cells.size = size) (hsz : 0 < size) (n : Nat) (h0 : 0 < n) (hn : n ≤ 2000000) (hb : bytes ≤ 1000) :
    ∃ c w', (Builtin.append_ #[t, tn] ty #[.slice none 0 0, .int .i64 n]).run P w = .ok (.slice (some ⟨w.heap.size, 0, none⟩) n c) w' ∧ w'.ownsRow w.heap.size e size (.slice (some ⟨w.heap.size, 0, none⟩) 0 c) 0 [] ∧ Ext w w' ∧ 0 < c := by
  subst hsize
  subst hby
  have hbb : n * i.bytes ≤ 2000000 * 1000 := Nat.mul_le_mul hn hb
  have hr := Lib.run_append_nil_zeros (P := P) w t tn ty e i z .i64 kn ht htn hi hz n h0 hsz (by omega) (by omega)
  have hge := grownCap_ge w n 0 e
  refine ⟨_, _, hr, ?_, (Ext.refl w).drew.alloc _, by omega⟩
  have hs : (Builtin.zeroCells z.cells n ++ Builtin.zeroCells z.cells (grownCap w n 0 e - n)).size = grownCap w n 0 e * i.size := by
    rw [Array.size_append, size_zeroCells, size_zeroCells, hzs, ← Nat.add_mul]
    congr 1; omega
  exact World.ownsRow_made (base := w.heap.size) w.drew _ _ (Nat.le_refl _) (grownCap_le_maxLen w n 0 e (by unfold maxLen; omega)) hs

set_option maxRecDepth 100000 in
theorem flatMap_same {α β : Type} {f g : α → List β} : ∀ {l : List α}, (∀ x ∈ l, f x = g x) → l.flatMap f = l.flatMap g
  | [], _ => rfl
  | x :: l, h => by
    rw [List.flatMap_cons, List.flatMap_cons, h x (by simp), flatMap_same (fun y hy => h y (by simp [hy]))]
set_option maxRecDepth 100000 in
theorem flatMap_range {β : Type} (f : Int → List β) : ∀ s : List Int, s.flatMap f = (List.range s.length).flatMap (fun i => f (s.getD i 0))
  | [] => rfl
  | x :: s => by
    rw [List.flatMap_cons, flatMap_range f s, List.length_cons, List.range_succ_eq_map, List.flatMap_cons, List.flatMap_map]
    rfl

/-- The orders that begin with `pre`, k more candidates to come, as the spec draws them. -/
def allS (n : Nat) : Nat → List Int → List (List Int)
  | 0, pre => [pre]
  | k + 1, pre => (leftL n pre).flatMap (fun x => allS n k (pre ++ [x]))

/-- The orders of s (of length k) as the implementation draws them. -/
def ordL : Nat → List Int → List (List Int)
  | 0, _ => [[]]
  | k + 1, s => (List.range s.length).flatMap (fun i => (ordL k (s.eraseIdx i)).map (fun r => s.getD i 0 :: r))

set_option maxRecDepth 100000 in
theorem all_ord (n : Nat) : ∀ (k : Nat) (pre : List Int), allS n k pre = (ordL k (leftL n pre)).map (fun r => pre ++ r)
  | 0, pre => by simp [allS, ordL]
  | k + 1, pre => by
    unfold allS ordL
    rw [flatMap_range, List.map_flatMap]
    refine flatMap_same (fun i hi => ?_)
    have hi := List.mem_range.1 hi
    have hg : (leftL n pre)[i]? = some ((leftL n pre).getD i 0) := by
      rw [List.getD_eq_getElem?_getD, List.getElem?_eq_getElem hi]; rfl
    rw [all_ord n k, ← leftL_erase hg, List.map_map]
    refine List.map_congr_left (fun r _ => ?_)
    simp

set_option maxRecDepth 100000 in
theorem ordL_len (k : Nat) : ∀ (s : List Int), s.length = k → ∀ r ∈ ordL k s, r.length = k := by
  induction k with
  | zero => intro s _ r hr; simp [ordL] at hr; simp [hr]
  | succ k ih =>
    intro s hs r hr
    unfold ordL at hr
    obtain ⟨i, hi, hr⟩ := List.mem_flatMap.1 hr
    obtain ⟨t, ht, rfl⟩ := List.mem_map.1 hr
    have hi := List.mem_range.1 hi
    rw [List.length_cons, ih (s.eraseIdx i) (by rw [List.length_eraseIdx_of_lt hi]; omega) t ht]

/-- All rankings of n candidates. -/
def allO (n : Nat) : List (List Int) := allS n n []
set_option maxRecDepth 100000 in
theorem all_eq (n : Nat) : allO n = ordL n (leftL n []) := by
  unfold allO; rw [all_ord]; simp

set_option maxRecDepth 100000 in
theorem grown_next {w wr w' : World} {v vr v' : Value} (h : w.grownBy wr v.ownBlock) (hf : Fresh w v vr) (h2 : wr.grownBy w' vr.ownBlock) (hf2 : Fresh wr vr v') : w.grownBy w' v.ownBlock ∧ Fresh w v v' := by
  have hs := h.size
  refine ⟨⟨h2.os.trans h.os, h2.tape.trans h.tape, h2.output.trans h.output, Nat.le_trans h.size h2.size, fun k hk hne => ?_⟩, ?_⟩
  · refine (h2.block k (by omega) (fun e => ?_)).trans (h.block k hk hne)
    rcases hf with hf | hf
    · exact hne (by rw [← hf]; exact e)
    · have := hf k e.symm; omega
  · rcases hf2 with hf2 | hf2
    · rcases hf with hf | hf
      · exact .inl (hf2.trans hf)
      · exact .inr (fun k hk => hf k (by rw [← hf2]; exact hk))
    · exact .inr (fun k hk => by have := hf2 k hk; omega)
set_option maxRecDepth 100000 in
theorem place_in {xs : List Int} {a : Int} : placeI xs a < 0 ↔ a ∉ xs := by
  have h := findI_nonneg (fun y => a == y) xs
  have h1 : (0 ≤ placeI xs a) ↔ a ∈ xs := by
    unfold placeI
    constructor
    · intro h0
      have : xs.any (fun y => a == y) = true := by rw [← h]; simpa using h0
      obtain ⟨y, hy, e⟩ := List.any_eq_true.1 this
      have : a = y := by simpa using e
      rw [this]; exact hy
    · intro hm
      have : xs.any (fun y => a == y) = true := List.any_eq_true.2 ⟨a, hm, by simp⟩
      rw [← h] at this
      simpa using this
  constructor
  · intro h0 hm; have := h1.2 hm; omega
  · intro hm; by_cases h0 : 0 ≤ placeI xs a
    · exact absurd (h1.1 h0) hm
    · omega

/-- What has been drawn of the orders that begin with `pre`, the next one below j. -/
def allTo (n k : Nat) (pre : List Int) (j : Nat) : List (List Int) := (upL j (notIn pre)).flatMap (fun x => allS n k (pre ++ [x]))
set_option maxRecDepth 100000 in
theorem allTo_succ (n k : Nat) (pre : List Int) (j : Nat) : allTo n k pre (j + 1) = allTo n k pre j ++ if notIn pre j then allS n k (pre ++ [(j : Int)]) else [] := by
  unfold allTo
  rw [upL_succ, List.flatMap_append]
  split <;> simp
set_option maxRecDepth 100000 in
theorem allS_len {n : Nat} (n2 : n ≤ 5) : ∀ (k : Nat) (pre : List Int), (allS n k pre).length ≤ 5 ^ k
  | 0, pre => by simp [allS]
  | k + 1, pre => by
    have key : ∀ j, (allTo n k pre j).length ≤ j * 5 ^ k := by
      intro j
      induction j with
      | zero => simp [allTo, upL]
      | succ j ih =>
        rw [allTo_succ, List.length_append, Nat.succ_mul]
        have h := allS_len n2 k (pre ++ [(j : Int)])
        split
        · omega
        · simp; omega
    have h := key n
    have h2 : n * 5 ^ k ≤ 5 * 5 ^ k := Nat.mul_le_mul_right _ n2
    rw [Nat.pow_succ, Nat.mul_comm]
    show (allTo n k pre n).length ≤ _
    omega
set_option maxRecDepth 100000 in
theorem allTo_len {n : Nat} (n2 : n ≤ 5) (k : Nat) (pre : List Int) : ∀ j, (allTo n k pre j).length ≤ j * 5 ^ k := by
  intro j
  induction j with
  | zero => simp [allTo, upL]
  | succ j ih =>
    rw [allTo_succ, List.length_append, Nat.succ_mul]
    have h := allS_len n2 k (pre ++ [(j : Int)])
    split
    · omega
    · simp; omega

end Go.Proofs.Ytafdedgckbhhjaa
