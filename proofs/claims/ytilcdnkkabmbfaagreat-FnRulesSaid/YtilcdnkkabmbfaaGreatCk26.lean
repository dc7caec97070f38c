/- Votes that are appended one by one: where each ranking lies, and its count. Votes in memory: parts of a list, votes that are copied as they are, and a ranking that is replaced. slices.Concat of two lists of votes. Drawn regions in an order of one's own, with a writing operation in the middle. -/
import Derived.Test.YtilcdnkkabmbfaaGreatCk19
import Derived.Test.YtilcdnkkabmbfaaGreatCk3
import Derived.Test.YtilcdnkkabmbfaaGreatCk11
import Derived.Test.YtilcdnkkabmbfaaGreatCk16
import Derived.Test.YtilcdnkkabmbfaaGreatCk0
namespace Go.Proofs.YtilcdnkkabmbfaaGreat
open Go.RowKit

def vtL (es : List (RowE × Int)) : List Value := es.flatMap (fun e => [rowV e.1, .int .i64 e.2])
set_option maxRecDepth 100000 in
theorem vtL_len : ∀ es : List (RowE × Int), (vtL es).length = es.length * 2
  | [] => rfl
  | e :: es => by
    have ih := vtL_len es
    unfold vtL at ih ⊢
    rw [List.flatMap_cons, List.length_append, ih, List.length_cons]
    simp; omega
set_option maxRecDepth 100000 in
theorem vtL_snoc (es : List (RowE × Int)) (e : RowE × Int) : vtL (es ++ [e]) = vtL es ++ [rowV e.1, .int .i64 e.2] := by simp [vtL]
set_option maxRecDepth 100000 in
theorem vtL_at : ∀ {es : List (RowE × Int)} {k : Nat} {e : RowE × Int}, es[k]? = some e → (vtL es)[k * 2]? = some (rowV e.1) ∧ (vtL es)[k * 2 + 1]? = some (.int .i64 e.2)
  | [], k, e, h => by simp at h
  | x :: es, 0, e, h => by
    simp at h
    subst h
    exact ⟨rfl, rfl⟩
  | x :: es, k + 1, e, h => by
    have ih := vtL_at (es := es) (k := k) (e := e) (by simpa using h)
    have e1 : vtL (x :: es) = rowV x.1 :: .int .i64 x.2 :: vtL es := rfl
    rw [e1, show (k + 1) * 2 = k * 2 + 1 + 1 by omega, List.getElem?_cons_succ, List.getElem?_cons_succ, List.getElem?_cons_succ, List.getElem?_cons_succ]
    exact ih
/-- v is a list of votes of the call's own. -/
def RowsV (w : World) (B : Nat) (v : Value) (es : List (RowE × Int)) : Prop := w.ownsRow B 55 2 v es.length (vtL es)
set_option maxRecDepth 100000 in
theorem RowsV.nil (w : World) (B : Nat) : RowsV w B (.slice none 0 0) [] := World.ownsRow_nil _ _ _ _
set_option maxRecDepth 100000 in
theorem RowsV.ext {w w' : World} {B : Nat} {v : Value} {es : List (RowE × Int)} (h : RowsV w B v es) (hw : Ext w w') : RowsV w' B v es := ownsRow_ext h hw
set_option maxRecDepth 100000 in
theorem RowsV.base {w : World} {B B' : Nat} {v : Value} {es : List (RowE × Int)} (h : RowsV w B v es) (hb : B' ≤ B) : RowsV w B' v es := ownsRow_base h hb
set_option maxRecDepth 100000 in
theorem ownV_ne {w : World} {B B' : Nat} {v u : Value} {xs : List Int} {es : List (RowE × Int)} (h1 : OwnI w B' u xs) (h : RowsV w B v es) : u.ownBlock = none ∨ u.ownBlock ≠ v.ownBlock := by
  cases hu : u.ownBlock with
  | none => exact .inl rfl
  | some k =>
    refine .inr (fun hv => ?_)
    obtain ⟨_, h⟩ := h
    obtain ⟨_, h1⟩ := h1
    rcases h1 with ⟨e1, _⟩ | ⟨g, cap, cur, e1, _, hh, _⟩
    · rw [e1] at hu; cases hu
    · rcases h with ⟨rfl, _⟩ | ⟨g', cap', cur', rfl, _, hh', _⟩
      · cases hv
      · rw [e1] at hu
        simp only [Value.ownBlock, Option.some.injEq] at hu hv
        subst hu
        subst hv
        rw [hh] at hh'
        injection hh' with hh'
        injection hh' with _ hh' _
        exact absurd hh' (by decide)
set_option maxRecDepth 100000 in
theorem rowsV_ne {w : World} {B B' : Nat} {v : Value} {es : List (RowE × Int)} {fs : List RowE} (h : RowsV w B v es) (hf : EntE w B' fs) : ∀ e ∈ fs, (rowV e).ownBlock = none ∨ (rowV e).ownBlock ≠ v.ownBlock := fun e he => ownV_ne (hf.1 e he) h
/-- Votes of the call's own, with rankings of the call's own. -/
def LstV (w : World) (B : Nat) (v : Value) (es : List (RowE × Int)) : Prop := RowsV w B v es ∧ EntE w B (es.map Prod.fst)
set_option maxRecDepth 100000 in
theorem LstV.nil (w : World) (B : Nat) : LstV w B (.slice none 0 0) [] := ⟨RowsV.nil _ _, EntE.nil _ _⟩
set_option maxRecDepth 100000 in
theorem LstV.ext {w w' : World} {B : Nat} {v : Value} {es : List (RowE × Int)} (h : LstV w B v es) (hw : Ext w w') : LstV w' B v es := ⟨h.1.ext hw, h.2.ext hw⟩
set_option maxRecDepth 100000 in
theorem LstV.base {w : World} {B B' : Nat} {v : Value} {es : List (RowE × Int)} (h : LstV w B v es) (hb : B' ≤ B) : LstV w B' v es := ⟨h.1.base hb, h.2.base hb⟩
set_option maxRecDepth 100000 in
theorem LstV.only {w w' : World} {B g : Nat} {v : Value} {es : List (RowE × Int)} (h : LstV w B v es) (hg : g < B) (hw : Only g w w') : LstV w' B v es := by
  refine ⟨World.ownsRow.kept h.1 hw ?_, h.2.only hw (fun e he hk => ?_)⟩
  · cases hv : v.ownBlock with
    | none => exact .inl rfl
    | some k =>
      refine .inr (fun e => ?_)
      injection e with e
      have := (World.ownsRow.lt h.1 k hv).1
      omega
  · have := (h.2.lt e he g hk).1
    omega
set_option maxRecDepth 100000 in
theorem LstV.push {wr w1 w2 wa w3 : World} {H : Nat} {v v' : Value} {es : List (RowE × Int)} {u : RowE} {k : Int} (h : LstV wr H v es) (hH : H ≤ wr.heap.size) (h1 : Ext wr w1) (hu : OwnI w2 w1.heap.size (rowV u) u.xs) (h2 : Ext w2 wa) (hE : Ext wr wa)
    (h3 : RowsV w3 H v' (es ++ [(u, k)])) (hg : wa.grownBy w3 v.ownBlock) : LstV w3 H v' (es ++ [(u, k)]) := by
  refine ⟨h3, ?_⟩
  have hv := h.1.ext hE
  have he := h.2.ext hE
  have hua := hu.ext h2
  rw [List.map_append]
  refine (he.grown hg (rowsV_ne hv he)).add ((hua.keepRow hg (ownV_ne hua hv)).base (Nat.le_trans hH h1.size)) (fun e' he' b hb hb2 => ?_)
  have c1 := (h.2.lt e' he' b hb).2
  have c2 := (World.ownsRow.lt hu b hb2).1
  have c3 := h1.size
  omega
set_option maxRecDepth 100000 in
theorem LstV.add {wa w3 : World} {H : Nat} {v v' : Value} {es : List (RowE × Int)} {u : RowE} {k : Int} (h : LstV wa H v es) (hu : OwnI wa H (rowV u) u.xs) (hfar : ∀ e ∈ es.map Prod.fst, ∀ b, (rowV e).ownBlock = some b → (rowV u).ownBlock ≠ some b)
    (h3 : RowsV w3 H v' (es ++ [(u, k)])) (hg : wa.grownBy w3 v.ownBlock) : LstV w3 H v' (es ++ [(u, k)]) := by
  refine ⟨h3, ?_⟩
  rw [List.map_append]
  exact (h.2.grown hg (rowsV_ne h.1 h.2)).add (hu.keepRow hg (ownV_ne hu h.1)) hfar
set_option maxRecDepth 100000 in
/-- What the votes are, as a value. -/
theorem RowsV.val {w : World} {B : Nat} {v : Value} {es : List (RowE × Int)} (h : RowsV w B v es) : (v = .slice none 0 0 ∧ es = []) ∨ ∃ g c, v = .slice (some ⟨g, 0, none⟩) es.length c ∧ es.length ≤ c ∧ B ≤ g ∧ BlkF w g (es.length * 2) (fun o => (vtL es).getD o undef) := by
  have h0 := h
  obtain ⟨_, h2⟩ := h
  rcases h2 with ⟨rfl, h2⟩ | ⟨g, cap, cur, rfl, hg, hh, hc, hm, hs, ht⟩
  · exact .inl ⟨rfl, List.length_eq_zero_iff.1 h2⟩
  · have hl : g < w.heap.size := (World.ownsRow.lt h0 g rfl).2
    refine .inr ⟨g, cap, rfl, hc, hg, hl, fun o => World.ownsRow.frozenAt h0 o, fun o ho => ?_⟩
    rw [World.ownsRow.cellAt h0 o (by omega)]
    obtain ⟨x, hx⟩ := at_of_lt (xs := vtL es) (k := o) (by rw [vtL_len]; exact ho)
    rw [hx]; simp [List.getD, hx]
def vtsOf (es : List (RowE × Int)) : List Vt := es.map (fun e => (e.1.xs, e.2))
set_option maxRecDepth 100000 in
theorem RowsV.rd {w : World} {B B' : Nat} {a : Option Addr} {n c : Nat} {es : List (RowE × Int)} (h : RowsV w B (.slice a n c) es) (hf : EntE w B' (es.map Prod.fst)) : RdV w a (vtsOf es) := fun hne => by
  have hne' : es ≠ [] := fun e => hne (by rw [e]; rfl)
  rcases h.val with ⟨_, he⟩ | ⟨g, c', hv, hc, hg, hB⟩
  · exact absurd he hne'
  · injection hv with h1 h2 h3
    subst h1
    refine ⟨g, 0, rfl, fun j x hx => ?_⟩
    unfold vtsOf at hx
    rw [List.getElem?_map, Option.map_eq_some_iff] at hx
    obtain ⟨e, he, rfl⟩ := hx
    have hl := lt_of_at he
    obtain ⟨c0, c1⟩ := vtL_at he
    have hO := hf.1 e.1 (List.mem_map_of_mem (List.mem_of_getElem? he))
    obtain ⟨a2, c2, hv2, hc2, _, hR2, _⟩ := hO.val
    unfold rowV at hv2
    injection hv2 with e1 e2 e3
    refine ⟨e.1.a, e.1.c, ?_, ?_, by rw [e3]; exact hc2, by rw [e1]; exact hR2⟩
    · rw [Nat.zero_add, hB.cell _ (by omega), ← e2]
      simp [List.getD, c0, rowV]
    · rw [Nat.zero_add, hB.cell _ (by omega)]
      simp [List.getD, c1]
set_option maxRecDepth 100000 in
theorem run_appV {w : World} (B : Nat) (ty : TypeId) (v : Value) (es : List (RowE × Int)) (e : RowE × Int) (gx : Nat) (hown : RowsV w B v es) (hB : B ≤ w.heap.size) (hc0 : w.cell? ⟨gx, 0, none⟩ = some (rowV e.1)) (hc1 : w.cell? ⟨gx, 1, none⟩ = some (.int .i64 e.2)) (hlen : es.length ≤ 100000) :
    ∃ v' w', (Builtin.append_ #[27, 27] ty #[v, .slice (some ⟨gx, 0, none⟩) 1 1]).run Tryz.prog w = .ok v' w' ∧ RowsV w' B v' (es ++ [e]) ∧ w.grownBy w' v.ownBlock ∧ Fresh w v v' := by
  obtain ⟨i0, hi, hz0, hz1, hz2⟩ := info_parts info_v
  obtain ⟨v', w', hr, h1, h2, h3⟩ := run_append_any (P := Tryz.prog) w B 27 ty 55 i0 (.agg #[.slice none 0 0, .int .i64 0]) 2 32 Tryz.underlying27 hi hz0 hz1 hz2 rfl (by decide) v es.length _ hown (some ⟨gx, 0, none⟩) 1 1 [rowV e.1, .int .i64 e.2] rfl
    (fun _ => ⟨_, rfl, fun j u hj => by
      match j, hj with
      | 0, hj => simp at hj; subst hj; simpa [Addr.add] using hc0
      | 1, hj => simp at hj; subst hj; simpa [Addr.add] using hc1⟩)
    (fun u hu => by
      simp at hu
      rcases hu with rfl | rfl <;> rfl) (by unfold maxLen; omega) (by omega) hB
  refine ⟨v', w', hr, ?_, h2, h3⟩
  unfold RowsV
  rw [vtL_snoc, List.length_append]
  exact h1
set_option maxRecDepth 100000 in
theorem oper_appV {o : Oper} {a : Act} {K : World → Act → Prop} (B : Nat) (w3 : World) (s x : Operand)
    (ho : o.op = .call { callee := .builtin .append, args := #[s, x], argTypes := #[27, 27] }) (v : Value) (es : List (RowE × Int)) (e : RowE × Int) (gx : Nat) (hs : a.eval s = v) (hown : RowsV w3 B v es) (hB : B ≤ w3.heap.size)
    (hx : a.eval x = .slice (some ⟨gx, 0, none⟩) 1 1) (hc0 : w3.cell? ⟨gx, 0, none⟩ = some (rowV e.1)) (hc1 : w3.cell? ⟨gx, 1, none⟩ = some (.int .i64 e.2)) (hlen : es.length ≤ 100000)
    (h : ∀ v' w', RowsV w' B v' (es ++ [e]) → w3.grownBy w' v.ownBlock → Fresh w3 v v' → K w' (a.put o.dst v')) : o.wp Tryz.prog a w3 (fun a' w' => K w' a') NoExit := by
  obtain ⟨v', w', hr, h1, h2, h3⟩ := run_appV B o.type v es e gx hown hB hc0 hc1 hlen
  unfold Oper.wp execOp
  simp only [ho, resolve, invoke, builtin, Sem.run_bind, Sem.run_pure, Result.andThen_ok, List.map_toArray, List.map_cons, List.map_nil, hs, hx, hr]
  exact h v' w' h1 h2 h3
set_option maxRecDepth 100000 in
theorem wpList_appV {ops : Array Oper} {rest : List Oper} {o : Oper} {a : Act} {Q : Exit → Act → World → Prop} (B : Nat) (w3 : World) (hgd : o.guard = none) (s x : Operand)
    (ho : o.op = .call { callee := .builtin .append, args := #[s, x], argTypes := #[27, 27] }) (v : Value) (es : List (RowE × Int)) (e : RowE × Int) (gx : Nat) (hs : a.eval s = v) (hown : RowsV w3 B v es) (hB : B ≤ w3.heap.size)
    (hx : a.eval x = .slice (some ⟨gx, 0, none⟩) 1 1) (hc0 : w3.cell? ⟨gx, 0, none⟩ = some (rowV e.1)) (hc1 : w3.cell? ⟨gx, 1, none⟩ = some (.int .i64 e.2)) (hlen : es.length ≤ 100000)
    (h : ∀ v' w', RowsV w' B v' (es ++ [e]) → w3.grownBy w' v.ownBlock → Fresh w3 v v' → wpList Tryz.prog ops Q rest (a.put o.dst v') w') : wpList Tryz.prog ops Q (o :: rest) a w3 := by
  obtain ⟨v', w', hr, h1, h2, h3⟩ := run_appV B o.type v es e gx hown hB hc0 hc1 hlen
  refine wpList_plain hgd fun K hK => ?_
  unfold Oper.wp execOp
  simp only [ho, resolve, invoke, builtin, Sem.run_bind, Sem.run_pure, Result.andThen_ok, List.map_toArray, List.map_cons, List.map_nil, hs, hx, hr]
  exact hK _ _ (h v' w' h1 h2 h3)
set_option maxRecDepth 100000 in
theorem oper_appVK {o : Oper} {a : Act} {K : World → Act → Prop} {R : World → World → Prop} (B : Nat) (w3 : World) (s x : Operand)
    (ho : o.op = .call { callee := .builtin .append, args := #[s, x], argTypes := #[27, 27] }) (v : Value) (es : List (RowE × Int)) (e : RowE × Int) (gx : Nat) (hs : a.eval s = v) (hown : RowsV w3 B v es) (hB : B ≤ w3.heap.size)
    (hx : a.eval x = .slice (some ⟨gx, 0, none⟩) 1 1) (hc0 : w3.cell? ⟨gx, 0, none⟩ = some (rowV e.1)) (hc1 : w3.cell? ⟨gx, 1, none⟩ = some (.int .i64 e.2)) (hlen : es.length ≤ 100000)
    (h : ∀ v' w', RowsV w' B v' (es ++ [e]) → w3.grownBy w' v.ownBlock → Fresh w3 v v' → R w3 w' ∧ K w' (a.put o.dst v')) : o.wp Tryz.prog a w3 (fun a' w' => R w3 w' ∧ K w' a') NoExit := by
  obtain ⟨v', w', hr, h1, h2, h3⟩ := run_appV B o.type v es e gx hown hB hc0 hc1 hlen
  unfold Oper.wp execOp
  simp only [ho, resolve, invoke, builtin, Sem.run_bind, Sem.run_pure, Result.andThen_ok, List.map_toArray, List.map_cons, List.map_nil, hs, hx, hr]
  exact h v' w' h1 h2 h3

set_option maxRecDepth 100000 in
theorem RdV.take {w : World} {a : Option Addr} {vs : List Vt} (h : RdV w a vs) (k : Nat) : RdV w a (vs.take k) := fun hne => by
  obtain ⟨b, off, ha, hj⟩ := h (fun e => hne (by rw [e]; simp))
  refine ⟨b, off, ha, fun j e he => ?_⟩
  rw [List.getElem?_take] at he
  split at he
  · exact hj j e he
  · cases he
set_option maxRecDepth 100000 in
theorem RdV.drop {w : World} {b off n : Nat} {vs : List Vt} (h : RdV w (some ⟨b, off, none⟩) vs) (k c : Nat) (hc : vs.length ≤ c) (hn : n = off + k * 2) : RdV w (if c = k then some ⟨b, off, none⟩ else some ⟨b, n, none⟩) (vs.drop k) := fun hne => by
  have hk : k < vs.length := by
    rcases Nat.lt_or_ge k vs.length with h | h
    · exact h
    · exact absurd (List.drop_eq_nil_of_le h) hne
  obtain ⟨b', off', e, hc'⟩ := h (fun e => by rw [e] at hk; simp at hk)
  injection e with e
  injection e with e1 e2
  subst e1 e2
  rw [if_neg (by omega)]
  subst hn
  refine ⟨b, off + k * 2, rfl, fun j x hx => ?_⟩
  rw [List.getElem?_drop] at hx
  have h1 := hc' (k + j) x hx
  rw [show off + (k + j) * 2 = off + k * 2 + j * 2 by omega] at h1
  exact h1
/-- The rankings of these votes are read where they lie. -/
def ReadE (w : World) (es : List (RowE × Int)) : Prop := ∀ e ∈ es, e.1.n = e.1.xs.length ∧ e.1.n ≤ e.1.c ∧ RdI w e.1.a e.1.xs
set_option maxRecDepth 100000 in
theorem ReadE.nil (w : World) : ReadE w [] := fun e he => by cases he
set_option maxRecDepth 100000 in
theorem ReadE.ext {w w' : World} {es : List (RowE × Int)} (h : ReadE w es) (hw : Ext w w') : ReadE w' es := fun e he => ⟨(h e he).1, (h e he).2.1, (h e he).2.2.ext hw⟩
set_option maxRecDepth 100000 in
theorem ReadE.app {w : World} {es fs : List (RowE × Int)} (h : ReadE w es) (h2 : ReadE w fs) : ReadE w (es ++ fs) := fun e he => by
  rcases List.mem_append.1 he with he | he
  · exact h e he
  · exact h2 e he
set_option maxRecDepth 100000 in
theorem ents_of {w : World} : ∀ (vs : List Vt) (b off : Nat), (∀ (j : Nat) (x : Vt), vs[j]? = some x → ∃ a' c', w.cell? ⟨b, off + j * 2, none⟩ = some (.slice a' x.1.length c') ∧ w.cell? ⟨b, off + j * 2 + 1, none⟩ = some (.int .i64 x.2) ∧ x.1.length ≤ c' ∧ RdI w a' x.1) →
    ∃ es : List (RowE × Int), vtsOf es = vs ∧ ReadE w es ∧ ∀ (j : Nat) (u : Value), (vtL es)[j]? = some u → w.cell? ⟨b, off + j, none⟩ = some u
  | [], b, off, _ => ⟨[], rfl, ReadE.nil w, fun j u h => by simp [vtL] at h⟩
  | x :: xs, b, off, h => by
    obtain ⟨a', c', h0, h1, h2, h3⟩ := h 0 x rfl
    obtain ⟨es, e1, e2, e3⟩ := ents_of xs b (off + 2) (fun j y hy => by
      have := h (j + 1) y (by simpa using hy)
      rw [show off + 2 + j * 2 = off + (j + 1) * 2 by omega]; exact this)
    refine ⟨(⟨a', x.1.length, c', x.1⟩, x.2) :: es, by rw [← e1]; rfl, fun e he => ?_, fun j u hj => ?_⟩
    · rcases List.mem_cons.1 he with rfl | he
      · exact ⟨rfl, h2, h3⟩
      · exact e2 e he
    · have e : vtL ((⟨a', x.1.length, c', x.1⟩, x.2) :: es) = .slice a' x.1.length c' :: .int .i64 x.2 :: vtL es := rfl
      rw [e] at hj
      match j, hj with
      | 0, hj => simp at hj; subst hj; simpa using h0
      | 1, hj => simp at hj; subst hj; simpa using h1
      | j + 2, hj =>
        have h4 := e3 j u (by simpa using hj)
        rw [show off + (j + 2) = off + 2 + j by omega]; exact h4
/-- A part of a list of votes as it lies in memory. -/
def LayV (w : World) (a : Option Addr) (es : List (RowE × Int)) : Prop := es ≠ [] → ∃ b off, a = some ⟨b, off, none⟩ ∧ ∀ (j : Nat) (u : Value), (vtL es)[j]? = some u → w.cell? ⟨b, off + j, none⟩ = some u
set_option maxRecDepth 100000 in
theorem LayV.ext {w w' : World} {a : Option Addr} {es : List (RowE × Int)} (h : LayV w a es) (hw : Ext w w') : LayV w' a es := fun hne => by
  obtain ⟨b, off, ha, hc⟩ := h hne
  exact ⟨b, off, ha, fun j u hj => hw.keep (hc j u hj)⟩
set_option maxRecDepth 100000 in
theorem RdV.ents {w : World} {a : Option Addr} {vs : List Vt} (h : RdV w a vs) : ∃ es : List (RowE × Int), vtsOf es = vs ∧ es.length = vs.length ∧ ReadE w es ∧ LayV w a es := by
  by_cases hne : vs = []
  · subst hne
    exact ⟨[], rfl, rfl, ReadE.nil w, fun h => absurd rfl h⟩
  · obtain ⟨b, off, rfl, hc⟩ := h hne
    obtain ⟨es, e1, e2, e3⟩ := ents_of vs b off hc
    exact ⟨es, e1, by rw [← e1]; unfold vtsOf; rw [List.length_map], e2, fun _ => ⟨b, off, rfl, e3⟩⟩
set_option maxRecDepth 100000 in
theorem RowsV.rdR {w : World} {B : Nat} {a : Option Addr} {n c : Nat} {es : List (RowE × Int)} (h : RowsV w B (.slice a n c) es) (hf : ReadE w es) : RdV w a (vtsOf es) := fun hne => by
  have hne' : es ≠ [] := fun e => hne (by rw [e]; rfl)
  rcases h.val with ⟨_, he⟩ | ⟨g, c', hv, hc, hg, hB⟩
  · exact absurd he hne'
  · injection hv with h1 h2 h3
    subst h1
    refine ⟨g, 0, rfl, fun j x hx => ?_⟩
    unfold vtsOf at hx
    rw [List.getElem?_map, Option.map_eq_some_iff] at hx
    obtain ⟨e, he, rfl⟩ := hx
    have hl := lt_of_at he
    obtain ⟨c0, c1⟩ := vtL_at he
    obtain ⟨r1, r2, r3⟩ := hf e (List.mem_of_getElem? he)
    refine ⟨e.1.a, e.1.c, ?_, ?_, by rw [← r1]; exact r2, r3⟩
    · rw [Nat.zero_add, hB.cell _ (by omega), ← r1]
      simp [List.getD, c0, rowV]
    · rw [Nat.zero_add, hB.cell _ (by omega)]
      simp [List.getD, c1]
set_option maxRecDepth 100000 in
theorem RowsV.lenEq {w : World} {B : Nat} {a : Option Addr} {n c : Nat} {es : List (RowE × Int)} (h : RowsV w B (.slice a n c) es) : n = es.length ∧ n ≤ c := by
  rcases h.val with ⟨hv, he⟩ | ⟨g, c', hv, hc, _, _⟩
  · injection hv with h1 h2 h3
    subst h2
    subst he
    exact ⟨rfl, by omega⟩
  · injection hv with h1 h2 h3
    exact ⟨h2, by omega⟩
set_option maxRecDepth 100000 in
theorem vtL_app (es fs : List (RowE × Int)) : vtL (es ++ fs) = vtL es ++ vtL fs := by simp [vtL]
set_option maxRecDepth 100000 in
theorem vtL_one (es : List (RowE × Int)) : ∀ u ∈ vtL es, u.oneCell' = true := by
  intro u hu
  unfold vtL at hu
  rw [List.mem_flatMap] at hu
  obtain ⟨e, _, he⟩ := hu
  simp at he
  rcases he with rfl | rfl <;> rfl
set_option maxRecDepth 100000 in
/-- A list of votes appended to a list of the call's own. -/
theorem wpList_appVs {ops : Array Oper} {rest : List Oper} {o : Oper} {a : Act} {Q : Exit → Act → World → Prop} (B : Nat) (w3 : World) (hgd : o.guard = none) (s x : Operand)
    (ho : o.op = .call { callee := .builtin .append, args := #[s, x], argTypes := #[27, 27] }) (v : Value) (es ys : List (RowE × Int)) (hs : a.eval s = v) (hown : RowsV w3 B v es) (hB : B ≤ w3.heap.size)
    (ax : Option Addr) (n c : Nat) (hn : n = ys.length) (hx : a.eval x = .slice ax n c) (hR : LayV w3 ax ys) (hlen : es.length + ys.length ≤ 100000)
    (h : ∀ v' w', RowsV w' B v' (es ++ ys) → w3.grownBy w' v.ownBlock → Fresh w3 v v' → wpList Tryz.prog ops Q rest (a.put o.dst v') w') : wpList Tryz.prog ops Q (o :: rest) a w3 := by
  obtain ⟨i0, hi, hz0, hz1, hz2⟩ := info_parts info_v
  subst hn
  obtain ⟨v', w', hr, h1, h2, h3⟩ := run_append_any (P := Tryz.prog) w3 B 27 o.type 55 i0 (.agg #[.slice none 0 0, .int .i64 0]) 2 32 Tryz.underlying27 hi hz0 hz1 hz2 rfl (by decide) v es.length _ hown ax ys.length c (vtL ys) (vtL_len ys)
    (fun hne => by
      obtain ⟨b, off, rfl, hc⟩ := hR (fun e => hne (by rw [e]; rfl))
      refine ⟨_, rfl, fun j u hj => ?_⟩
      have := hc j u hj
      by_cases hj0 : j = 0
      · subst hj0
        simpa [Addr.add] using this
      · simpa [Addr.add, hj0] using this)
    (vtL_one ys) (by unfold maxLen; omega) (by omega) hB
  refine wpList_plain hgd fun K hK => ?_
  unfold Oper.wp execOp
  simp only [ho, resolve, invoke, builtin, Sem.run_bind, Sem.run_pure, Result.andThen_ok, List.map_toArray, List.map_cons, List.map_nil, hs, hx, hr]
  refine hK _ _ (h v' w' ?_ h2 h3)
  unfold RowsV
  rw [vtL_app, List.length_append]
  exact h1
set_option maxRecDepth 100000 in
theorem RowsV.own {w : World} {B g n c : Nat} {es : List (RowE × Int)} (h : RowsV w B (.slice (some ⟨g, 0, none⟩) n c) es) : BlkF w g (es.length * 2) (fun o => (vtL es).getD o undef) := by
  rcases h.val with ⟨hv, _⟩ | ⟨g', c', hv, _, _, hB⟩
  · cases hv
  · injection hv with h1 h2 h3
    injection h1 with h1
    injection h1 with h1
    subst h1
    exact hB
/-- Votes that are read, all in blocks from B on. -/
def FrV (w : World) (B : Nat) (a : Option Addr) (vs : List Vt) : Prop :=
  vs ≠ [] → ∃ b off, a = some ⟨b, off, none⟩ ∧ B ≤ b ∧ ∀ (j : Nat) (x : Vt), vs[j]? = some x → ∃ a' c', w.cell? ⟨b, off + j * 2, none⟩ = some (.slice a' x.1.length c') ∧
    w.cell? ⟨b, off + j * 2 + 1, none⟩ = some (.int .i64 x.2) ∧ x.1.length ≤ c' ∧ RdI w a' x.1 ∧ (x.1 ≠ [] → ∀ b2 off2, a' = some ⟨b2, off2, none⟩ → B ≤ b2)
set_option maxRecDepth 100000 in
theorem FrV.rd {w : World} {B : Nat} {a : Option Addr} {vs : List Vt} (h : FrV w B a vs) : RdV w a vs := fun hne => by
  obtain ⟨b, off, ha, _, hc⟩ := h hne
  refine ⟨b, off, ha, fun j x hx => ?_⟩
  obtain ⟨a', c', h0, h1, h2, h3, _⟩ := hc j x hx
  exact ⟨a', c', h0, h1, h2, h3⟩
set_option maxRecDepth 100000 in
theorem FrV.ext {w w' : World} {B : Nat} {a : Option Addr} {vs : List Vt} (h : FrV w B a vs) (hw : Ext w w') : FrV w' B a vs := fun hne => by
  obtain ⟨b, off, ha, hb, hc⟩ := h hne
  refine ⟨b, off, ha, hb, fun j x hx => ?_⟩
  obtain ⟨a', c', h0, h1, h2, h3, h4⟩ := hc j x hx
  exact ⟨a', c', hw.keep h0, hw.keep h1, h2, h3.ext hw, h4⟩
set_option maxRecDepth 100000 in
theorem FrV.only {w w' : World} {B g : Nat} {a : Option Addr} {vs : List Vt} (h : FrV w B a vs) (hg : g < B) (hw : Only g w w') : FrV w' B a vs := fun hne => by
  obtain ⟨b, off, ha, hb, hc⟩ := h hne
  refine ⟨b, off, ha, hb, fun j x hx => ?_⟩
  obtain ⟨a', c', h0, h1, h2, h3, h4⟩ := hc j x hx
  refine ⟨a', c', hw.keep (by dsimp only; omega) h0, hw.keep (by dsimp only; omega) h1, h2, ?_, h4⟩
  by_cases hx0 : x.1 = []
  · rw [hx0]; exact RdI.nil _ _
  · exact hw.rdI h3 (fun b2 off2 e => by have := h4 hx0 b2 off2 e; omega)
set_option maxRecDepth 100000 in
/-- One ranking is replaced. -/
theorem LstV.setRd {w : World} {B g n c : Nat} {es : List (RowE × Int)} (h : LstV w B (.slice (some ⟨g, 0, none⟩) n c) es) {k : Nat} {e : RowE × Int} (hk : es[k]? = some e) {au : Option Addr} {nu cu : Nat} {us : List Int} (hu : RdI w au us) (hn : nu = us.length) (hc : nu ≤ cu) (hug : us ≠ [] → ∀ b off, au = some ⟨b, off, none⟩ → B ≤ b ∧ b ≠ g) :
    FrV (w.setCell ⟨g, k * 2, none⟩ (.slice au nu cu)) B (some ⟨g, 0, none⟩) ((vtsOf es).set k (us, e.2)) ∧ Only g w (w.setCell ⟨g, k * 2, none⟩ (.slice au nu cu)) := by
  have hB := h.1.own
  have hBg : B ≤ g := (World.ownsRow.lt h.1 g rfl).1
  have hkl := lt_of_at hk
  have hS := hB.set (k * 2) (by omega) (.slice au nu cu)
  have hO : Only g w (w.setCell ⟨g, k * 2, none⟩ (.slice au nu cu)) := (Only.refl g w).setCell _ _
  generalize w.setCell ⟨g, k * 2, none⟩ (.slice au nu cu) = w' at hS hO
  refine ⟨fun _ => ⟨g, 0, rfl, hBg, fun j x hx => ?_⟩, hO⟩
  rw [List.getElem?_set] at hx
  by_cases hjk : k = j
  · subst hjk
    have hl : k < (vtsOf es).length := by unfold vtsOf; rw [List.length_map]; exact hkl
    rw [if_pos rfl, if_pos hl] at hx
    injection hx with hx
    subst hx
    obtain ⟨_, c1⟩ := vtL_at hk
    refine ⟨au, cu, ?_, ?_, by dsimp only; omega, ?_, fun hne b2 off2 e => (hug hne b2 off2 e).1⟩
    · rw [Nat.zero_add, hS.cell _ (by omega)]; simp [hn]
    · rw [Nat.zero_add, hS.cell _ (by omega)]
      simp [List.getD, c1]
    · by_cases hne : us = []
      · dsimp only; rw [hne]; exact RdI.nil _ _
      · exact hO.rdI hu (fun b2 off2 e => (hug hne b2 off2 e).2)
  · rw [if_neg hjk] at hx
    unfold vtsOf at hx
    rw [List.getElem?_map, Option.map_eq_some_iff] at hx
    obtain ⟨f, hf, rfl⟩ := hx
    have hl := lt_of_at hf
    obtain ⟨c0, c1⟩ := vtL_at hf
    have hO2 := h.2.1 f.1 (List.mem_map_of_mem (List.mem_of_getElem? hf))
    obtain ⟨a2, c2, hv2, hc2, _, hR2, hb2⟩ := hO2.val
    have hne3 := rowsV_ne h.1 h.2 f.1 (List.mem_map_of_mem (List.mem_of_getElem? hf))
    have hv2' := hv2
    unfold rowV at hv2
    injection hv2 with e1 e2 e3
    refine ⟨f.1.a, f.1.c, ?_, ?_, by rw [e3]; exact hc2, ?_, fun hne b2 off2 e => by
      obtain ⟨g2, ha2, hb3, _⟩ := hb2 hne
      rw [e1, ha2] at e
      injection e with e
      injection e with e
      omega⟩
    · rw [Nat.zero_add, hS.cell _ (by omega), ← e2]
      rw [if_neg (by omega)]
      simp [List.getD, c0, rowV]
    · rw [Nat.zero_add, hS.cell _ (by omega)]
      rw [if_neg (by omega)]
      simp [List.getD, c1]
    · rw [e1]
      by_cases hne : f.1.xs = []
      · rw [hne]; exact RdI.nil _ _
      · obtain ⟨g2, ha2, _, _⟩ := hb2 hne
        refine hO.rdI hR2 (fun b off hab hbg => ?_)
        rw [ha2] at hab
        injection hab with hab
        injection hab with hab
        rw [hv2', ha2] at hne3
        subst hbg
        subst hab
        rcases hne3 with h | h
        · cases h
        · exact h rfl
set_option maxRecDepth 100000 in
/-- The list of votes is a block if there is a vote. -/
theorem LstV.at0 {w : World} {B : Nat} {v : Value} {es : List (RowE × Int)} (h : LstV w B v es) (hne : es ≠ []) : ∃ g c, v = .slice (some ⟨g, 0, none⟩) es.length c ∧ es.length ≤ c ∧ B ≤ g ∧ g < w.heap.size := by
  rcases h.1.val with ⟨_, he⟩ | ⟨g, c, hv, hc, hg, hB⟩
  · exact absurd he hne
  · exact ⟨g, c, hv, hc, hg, hB.lt⟩
set_option maxRecDepth 100000 in
theorem LstV.rdV {w : World} {B : Nat} {a : Option Addr} {n c : Nat} {es : List (RowE × Int)} (h : LstV w B (.slice a n c) es) : RdV w a (vtsOf es) := h.1.rd (B' := B) h.2
set_option maxRecDepth 100000 in
theorem LstV.form {w : World} {B : Nat} {v : Value} {es : List (RowE × Int)} (h : LstV w B v es) : ∃ a c, v = .slice a es.length c ∧ es.length ≤ c := by
  rcases h.1.val with ⟨hv, he⟩ | ⟨g, c, hv, hc, _, _⟩
  · subst he; exact ⟨none, 0, hv, Nat.le_refl _⟩
  · exact ⟨_, c, hv, hc⟩
set_option maxRecDepth 100000 in
theorem vtsOf_len {es : List (RowE × Int)} {vs : List Vt} (h : vtsOf es = vs) : es.length = vs.length := by rw [← h]; unfold vtsOf; rw [List.length_map]
set_option maxRecDepth 100000 in
theorem vtsOf_at {es : List (RowE × Int)} {vs : List Vt} (h : vtsOf es = vs) {k : Nat} {x : Vt} (hx : vs[k]? = some x) : ∃ e, es[k]? = some e ∧ e.1.xs = x.1 ∧ e.2 = x.2 := by
  rw [← h] at hx
  unfold vtsOf at hx
  rw [List.getElem?_map, Option.map_eq_some_iff] at hx
  obtain ⟨e, he, rfl⟩ := hx
  exact ⟨e, he, rfl, rfl⟩

set_option maxRecDepth 100000 in
set_option maxHeartbeats 1000000 in
theorem growV_impl (w : World) (n : Nat) (hn : n ≤ 2000000) :
    Calls Tryz.prog 122 #[.slice none 0 0, .int .i64 n] w fun e w' => ∃ v, e = .returned v ∧ RowsV w' w.heap.size v [] ∧ Ext w w' := by
  obtain ⟨i0, hi, hz0, hz1, hz2⟩ := info_parts info_v
  by_cases h0 : n = 0
  · subst h0
    go_enter Tryz.func122, Tryz.ntmps122
    go_wp2
    go_ret
    exact ⟨_, rfl, RowsV.nil _ _, Ext.refl _⟩
  · obtain ⟨c, w', hr, hO, hE, hc⟩ := zeros_own (P := Tryz.prog) w 27 3 27 55 i0 (.agg #[.slice none 0 0, .int .i64 0]) 2 32 .i64 Tryz.underlying27 Tryz.underlying3 hi hz0 hz1 hz2 rfl (by decide) n (by omega) hn (by decide)
    have hc0 : c ≠ 0 := by omega
    have hn0 : (0 : Int) < n := by omega
    have HR := hide hr
    clear hr
    go_enter Tryz.func122, Tryz.ntmps122
    go_wp2_with (at_builtin; refine Lib.wpList_append_run _ rfl _ _ _ _ rfl _ _ rfl rfl _ _ HR.out ?_)
    go_ret
    exact ⟨_, rfl, hO, hE⟩

set_option maxRecDepth 100000 in
set_option maxHeartbeats 4000000 in
theorem catV_impl (w : World) (g : Nat) (a1 a2 : Option Addr) (c1 c2 : Nat) (xs ys : List (RowE × Int)) (c0 : w.cell? ⟨g, 0, none⟩ = some (.slice a1 xs.length c1)) (c1' : w.cell? ⟨g, 1, none⟩ = some (.slice a2 ys.length c2))
    (hR1 : LayV w a1 xs) (hR2 : LayV w a2 ys) (hl : xs.length + ys.length ≤ 1000) :
    Calls Tryz.prog 61 #[.slice (some ⟨g, 0, none⟩) 2 2] w fun e w' => ∃ v, e = .returned v ∧ RowsV w' w.heap.size v (xs ++ ys) ∧ Ext w w' := by
  have h1 := c0
  have h2 := c1'
  have y1 : wrap64 (0 + (xs.length : Int)) = (xs.length : Int) := by rw [IntWalk.wrap64_in _ (by omega)]; omega
  have y2 : wrap64 ((xs.length : Int) + (ys.length : Int)) = (xs.length : Int) + (ys.length : Int) := IntWalk.wrap64_in _ (by omega)
  have z1 : ¬ ((xs.length : Int) < 0) := by omega
  have z2 : ¬ ((xs.length : Int) + (ys.length : Int) < 0) := by omega
  go_enter Tryz.func61, Tryz.ntmps61
  go_wp2_with fail
  go_loopw [3, 5, 11] (fun s _ i wr => ((i = .int .i64 0 ∧ s = .int .i64 0) ∨ (i = .int .i64 1 ∧ s = .int .i64 xs.length) ∨ (i = .int .i64 2 ∧ s = .int .i64 ((xs.length : Int) + (ys.length : Int)))) ∧ wr = w) (fun _ _ i _ => 2 - (intOf i).toNat)
  case atStart => exact ⟨.inl ⟨rfl, rfl⟩, rfl⟩
  case round =>
    obtain ⟨⟨rfl, rfl⟩ | ⟨rfl, rfl⟩ | ⟨rfl, rfl⟩, rfl⟩ := hrel
    · go_wp2
      exact ⟨⟨.inr (.inl ⟨rfl, rfl⟩), trivial⟩, by simp [intOf]⟩
    · go_wp2
      exact ⟨⟨.inr (.inr ⟨rfl, rfl⟩), trivial⟩, by simp [intOf]⟩
    · obtain ⟨wo, hwo⟩ : ∃ wo : World, wo = wr := ⟨_, rfl⟩
      subst hwo
      have hg := growV_impl wo (xs.length + ys.length) (by omega)
      rw [Int.natCast_add] at hg
      have HG := hide hg
      clear hg
      go_wp2_with fail
      refine HG.out.mono ?_
      rintro e w1 ⟨v, rfl, hO, hw1⟩
      have h1 := hw1.keep h1
      have h2 := hw1.keep h2
      go_wp2_with fail
      go_loopw [6, 8, 27] (fun v _ i wq => ((i = .int .i64 0 ∧ RowsV wq wo.heap.size v []) ∨ (i = .int .i64 1 ∧ RowsV wq wo.heap.size v xs) ∨ (i = .int .i64 2 ∧ RowsV wq wo.heap.size v (xs ++ ys))) ∧ Ext wo wq ∧ wq.cell? ⟨g, 0, none⟩ = some (.slice a1 xs.length c1) ∧ wq.cell? ⟨g, 1, none⟩ = some (.slice a2 ys.length c2)) (fun _ _ i _ => 2 - (intOf i).toNat)
      case atStart => exact ⟨.inl ⟨rfl, hO⟩, hw1, h1, h2⟩
      case round =>
        clear hO hw1 h1 h2
        obtain ⟨⟨rfl, hO⟩ | ⟨rfl, hO⟩ | ⟨rfl, hO⟩, hw, h1, h2⟩ := hrel
        · go_wp2_with (at_builtin; go_loud (refine wpList_appVs wo.heap.size _ rfl _ _ rfl _ [] xs rfl (by exact hO) hw.size a1 xs.length c1 rfl rfl (hR1.ext hw) (by simp; omega) ?_); intro v1 w2 hO1 hg1 _)
          have hE := Ext.grown hw hg1 (ownsRow_block hO)
          exact ⟨⟨.inr (.inl ⟨rfl, hO1⟩), hE, hE.keep c0, hE.keep c1'⟩, by simp [intOf]⟩
        · go_wp2_with (at_builtin; go_loud (refine wpList_appVs wo.heap.size _ rfl _ _ rfl _ xs ys rfl (by exact hO) hw.size a2 ys.length c2 rfl rfl (hR2.ext hw) (by omega) ?_); intro v1 w2 hO1 hg1 _)
          have hE := Ext.grown hw hg1 (ownsRow_block hO)
          exact ⟨⟨.inr (.inr ⟨rfl, hO1⟩), hE, hE.keep c0, hE.keep c1'⟩, by simp [intOf]⟩
        · go_wp2
          go_ret
          exact ⟨_, rfl, hO, hw⟩

section
variable {P : Program} {ops : Array Oper}
/-- As wpO, and a step that writes, before or behind all others. -/
def wpP (P : Program) (ops : Array Oper) (Q : Act → World → Prop) : List Nat → Array Bool → World → Act → Prop
  | [], _, W, a => ∀ w, Ext W w → Q a w
  | i :: rest, listed, W, a => ∃ o, ops[i]? = some o ∧
    ((∃ v, YX P ops W o v a ∧ wpP P ops Q rest (listed.setIfInBounds i true) W (a.put o.dst v)) ∨
    (Region.ready .any ops listed = [i] ∧ ∀ w, Ext W w → wpOp P ops NoExit i (fun a' w' => Ext w w' ∧ wpP P ops Q rest (listed.setIfInBounds i true) w' a') a w) ∨
    (Region.ready .any ops listed = [i] ∧ lastB .any ops i = true ∧ Region.ready .any ops (listed.setIfInBounds i true) = [] ∧ ∀ w, Ext W w → wpOp P ops NoExit i (fun a' w' => Q a' w') a w) ∨
    (Region.ready .any ops listed = [i] ∧ cutB .any ops i = true ∧ ∀ w, Ext W w → wpOp P ops NoExit i (fun a' w' => wpP P ops Q rest (listed.setIfInBounds i true) w' a') a w))

set_option maxRecDepth 100000 in
theorem wpP_any {Q : Act → World → Prop} (hs : Region.noSelect ops = true) : ∀ (l : List Nat) (listed : Array Bool) (W : World) (a : Act),
    Closed .any ops listed → ordB ops l listed = true → wpP P ops Q l listed W a → wpAnyX P .any ops Q l.length listed W a
  | [], _, _, _, _, hB, h => ⟨by simpa [ordB] using hB, h⟩
  | i :: l, listed, W, a, hcl, hB, h => by
    simp only [ordB, Bool.and_eq_true] at hB
    obtain ⟨⟨hr, hf⟩, hB'⟩ := hB
    have hcl' := hcl.set (j := i) (by simpa using hr)
    obtain ⟨o, h0, h⟩ := h
    rcases h with ⟨v, hy, hK⟩ | ⟨hsole', hK⟩ | ⟨hsole', hlast, hend, hK⟩ | ⟨hsole', hcut, hK⟩
    · exact wpAnyX_first h0 (Region.noSelect_spec hs) l.length _ W a (Region.free_spec h0 hf) hcl (by simpa using hr) hy (wpP_any hs l _ W _ hcl' hB' hK)
    · refine ⟨fun h => (by rw [h] at hsole'; cases hsole'), fun j hj w hw => ?_⟩
      have hik : j = i := by rw [hsole'] at hj; simpa using hj
      subst hik
      exact wpOp_mono (fun a' w' h3 => .inl ⟨h3.1, wpP_any hs l _ w' a' hcl' hB' h3.2⟩) (hK w hw)
    · refine ⟨fun h => (by rw [h] at hsole'; cases hsole'), fun j hj w hw => ?_⟩
      have hik : j = i := by rw [hsole'] at hj; simpa using hj
      subst hik
      exact wpOp_mono (fun a' w' h3 => .inr (.inl ⟨hlast, hend, h3⟩)) (hK w hw)
    · refine ⟨fun h => (by rw [h] at hsole'; cases hsole'), fun j hj w hw => ?_⟩
      have hik : j = i := by rw [hsole'] at hj; simpa using hj
      subst hik
      exact wpOp_mono (fun a' w' h3 => .inr (.inr ⟨hcut, wpP_any hs l _ w' a' hcl' hB' h3⟩)) (hK w hw)

set_option maxRecDepth 100000 in
theorem wp_region_P {id : Nat} {Q : Exit → Act → World → Prop} {a : Act} {w : World} {l : List Oper} (is : List Nat) (hm : P.follows .mixedOrders = true) (hlen : is.length = l.length)
    (hB : (Region.noSelect l.toArray && ordB l.toArray is (Array.replicate l.length false)) = true)
    (h : wpP P l.toArray (fun a' w' => Q .normal a' w') is (Array.replicate l.length false) w a) : (Code.region id l.toArray true).wp P Q a w := by
  simp only [Bool.and_eq_true] at hB
  have key : ∀ (l' : List Nat) (listed : Array Bool) (a : Act), wpP P l.toArray (fun a' w' => Q .normal a' w') l' listed w a → wpP P l.toArray (fun a' w' => Q .normal a' w') l' listed w.drew a := by
    intro l'
    induction l' with
    | nil => intro listed a h w' hw'; exact h w' (((Ext.refl w).drew).trans hw')
    | cons i l' ih =>
      intro listed a h
      obtain ⟨o, h0, h⟩ := h
      refine ⟨o, h0, ?_⟩
      rcases h with ⟨v, hy, hK⟩ | ⟨hs, hK⟩ | ⟨hs, h1, h2, hK⟩ | ⟨hs, h1, hK⟩
      · exact .inl ⟨v, hy.mono ((Ext.refl w).drew), ih _ _ hK⟩
      · exact .inr (.inl ⟨hs, fun w' hw' => hK w' (((Ext.refl w).drew).trans hw')⟩)
      · exact .inr (.inr (.inl ⟨hs, h1, h2, fun w' hw' => hK w' (((Ext.refl w).drew).trans hw')⟩))
      · exact .inr (.inr (.inr ⟨hs, h1, fun w' hw' => hK w' (((Ext.refl w).drew).trans hw')⟩))
  have h1 := wpP_any (P := P) (Q := fun a' w' => Q .normal a' w') hB.1 is _ w.drew a (Closed.start _ _ _) hB.2 (key is _ a h)
  rw [hlen] at h1
  exact wp_region_any hm (wpAny_of_X (fun _ _ h => h) _ _ _ _ (by simpa using h1))

set_option maxRecDepth 100000 in
theorem wpP_stepQ {Q : Act → World → Prop} {o : Oper} {i : Nat} {rest : List Nat} {listed : Array Bool} {W : World} {a : Act} (h0 : ops[i]? = some o)
    (h : ∀ K : Act → Prop, (∀ a, wpP P ops Q rest (listed.setIfInBounds i true) W a → K a) → if Region.wanted o (yielded ops a.tmps) then ∃ v, QX P W o a v ∧ K (a.put o.dst v) else K (a.put o.dst undef)) : wpP P ops Q (i :: rest) listed W a := by
  have h1 := h _ (fun _ h => h)
  refine ⟨o, h0, .inl ?_⟩
  by_cases hw : Region.wanted o (yielded ops a.tmps) = true
  · simp only [hw, if_true] at h1
    obtain ⟨v, hq, hK⟩ := h1
    exact ⟨v, .inl ⟨hw, hq⟩, hK⟩
  · simp only [hw] at h1
    exact ⟨undef, .inr ⟨by simpa using hw, rfl⟩, h1⟩

set_option maxRecDepth 100000 in
theorem wpP_stepS {Q : Act → World → Prop} {o : Oper} {i : Nat} {rest : List Nat} {listed : Array Bool} {W : World} {a : Act} (h0 : ops[i]? = some o) (hs : (Region.ready .any ops listed == [i]) = true)
    (h : ∀ K : World → Act → Prop, (∀ W a, wpP P ops Q rest (listed.setIfInBounds i true) W a → K W a) → ∀ w, Ext W w →
      if Region.wanted o (yielded ops a.tmps) then o.wp P a w (fun a' w' => Ext w w' ∧ K w' a') NoExit else K w (a.put o.dst undef)) : wpP P ops Q (i :: rest) listed W a := by
  refine ⟨o, h0, .inr (.inl ⟨by simpa using hs, fun w hw' => ?_⟩)⟩
  have h1 := h _ (fun _ _ h => h) w hw'
  unfold wpOp
  simp only [h0]
  by_cases hw : Region.wanted o (yielded ops a.tmps) = true
  · simp only [hw, if_true] at h1 ⊢
    exact .inl h1
  · simp only [hw] at h1 ⊢
    exact ⟨Ext.refl _, h1⟩

set_option maxRecDepth 100000 in
theorem wpP_stepC {Q : Act → World → Prop} {o : Oper} {i : Nat} {rest : List Nat} {listed : Array Bool} {W : World} {a : Act} (h0 : ops[i]? = some o) (hs : (Region.ready .any ops listed == [i] && cutB .any ops i) = true)
    (h : ∀ K : World → Act → Prop, (∀ W a, wpP P ops Q rest (listed.setIfInBounds i true) W a → K W a) → ∀ w, Ext W w →
      if Region.wanted o (yielded ops a.tmps) then o.wp P a w (fun a' w' => K w' a') NoExit else K w (a.put o.dst undef)) : wpP P ops Q (i :: rest) listed W a := by
  rw [Bool.and_eq_true] at hs
  refine ⟨o, h0, .inr (.inr (.inr ⟨by simpa using hs.1, hs.2, fun w hw' => ?_⟩))⟩
  have h1 := h _ (fun _ _ h => h) w hw'
  unfold wpOp
  simp only [h0]
  by_cases hw : Region.wanted o (yielded ops a.tmps) = true
  · simp only [hw, if_true] at h1 ⊢
    exact .inl h1
  · simp only [hw] at h1 ⊢
    exact h1

set_option maxRecDepth 100000 in
theorem wpP_stepL {Q : Act → World → Prop} {o : Oper} {i : Nat} {rest : List Nat} {listed : Array Bool} {W : World} {a : Act} (h0 : ops[i]? = some o) (hs : (Region.ready .any ops listed == [i]) = true) (hl : lastB .any ops i = true)
    (he : (Region.ready .any ops (listed.setIfInBounds i true)).isEmpty = true)
    (h : ∀ K : Act → World → Prop, (∀ a w, Q a w → K a w) → ∀ w, Ext W w → if Region.wanted o (yielded ops a.tmps) then o.wp P a w K NoExit else K (a.put o.dst undef) w) : wpP P ops Q (i :: rest) listed W a := by
  refine ⟨o, h0, .inr (.inr (.inl ⟨by simpa using hs, hl, List.isEmpty_iff.1 he, fun w hw' => ?_⟩))⟩
  have h1 := h _ (fun _ _ h => h) w hw'
  unfold wpOp
  simp only [h0]
  by_cases hw : Region.wanted o (yielded ops a.tmps) = true
  · simp only [hw, if_true] at h1 ⊢
    exact .inl h1
  · simp only [hw] at h1 ⊢
    exact h1

set_option maxRecDepth 100000 in
theorem wpP_nil {Q : Act → World → Prop} {listed : Array Bool} {W : World} {a : Act} (h : ∀ w, Ext W w → Q a w) : wpP P ops Q [] listed W a := h
end

end Go.Proofs.YtilcdnkkabmbfaaGreat
