/- Votes that are appended one by one: where each ranking lies, and its count. Drawn regions in an order of one's own, with a writing operation in the middle. A profile in which each ranking is changed, of the program. slices.Equal on lists of numbers. -/
import Derived.Test.YtkbbcglghfddjaaCg15
import Derived.Test.YtkbbcglghfddjaaCg3
import Derived.Test.YtkbbcglghfddjaaCg0
import Derived.Test.YtkbbcglghfddjaaCg13
namespace Go.Proofs.Ytkbbcglghfddjaa
open Go.RowKit

def vtL (es : List (RowE × Int)) : List Value := es.flatMap (fun e => [rowV e.1, .int .i64 e.2])
set_option maxRecDepth 100000 in
theorem vtL_len : ∀ es : List (RowE × Int), (vtL es).length = es.length * 2
  | [] => rfl
  | e :: es => by
    have ih := vtL_len es
    unfold vtL at ih ⊢
    rw [List.flatMap_cons, List.length_append, ih, List.length_cons]
    simp; omega
set_option maxRecDepth 100000 in
theorem vtL_snoc (es : List (RowE × Int)) (e : RowE × Int) : vtL (es ++ [e]) = vtL es ++ [rowV e.1, .int .i64 e.2] := by simp [vtL]
set_option maxRecDepth 100000 in
theorem vtL_at : ∀ {es : List (RowE × Int)} {k : Nat} {e : RowE × Int}, es[k]? = some e → (vtL es)[k * 2]? = some (rowV e.1) ∧ (vtL es)[k * 2 + 1]? = some (.int .i64 e.2)
  | [], k, e, h => by simp at h
  | x :: es, 0, e, h => by
    simp at h
    subst h
    exact ⟨rfl, rfl⟩
  | x :: es, k + 1, e, h => by
    have ih := vtL_at (es := es) (k := k) (e := e) (by simpa using h)
    have e1 : vtL (x :: es) = rowV x.1 :: .int .i64 x.2 :: vtL es := rfl
    rw [e1, show (k + 1) * 2 = k * 2 + 1 + 1 by omega, List.getElem?_cons_succ, List.getElem?_cons_succ, List.getElem?_cons_succ, List.getElem?_cons_succ]
    exact ih
/-- v is a list of votes of the call's own. -/
def RowsV (w : World) (B : Nat) (v : Value) (es : List (RowE × Int)) : Prop := w.ownsRow B 59 2 v es.length (vtL es)
set_option maxRecDepth 100000 in
theorem RowsV.nil (w : World) (B : Nat) : RowsV w B (.slice none 0 0) [] := World.ownsRow_nil _ _ _ _
set_option maxRecDepth 100000 in
theorem RowsV.ext {w w' : World} {B : Nat} {v : Value} {es : List (RowE × Int)} (h : RowsV w B v es) (hw : Ext w w') : RowsV w' B v es := ownsRow_ext h hw
set_option maxRecDepth 100000 in
theorem RowsV.base {w : World} {B B' : Nat} {v : Value} {es : List (RowE × Int)} (h : RowsV w B v es) (hb : B' ≤ B) : RowsV w B' v es := ownsRow_base h hb
set_option maxRecDepth 100000 in
theorem ownV_ne {w : World} {B B' : Nat} {v u : Value} {xs : List Int} {es : List (RowE × Int)} (h1 : OwnI w B' u xs) (h : RowsV w B v es) : u.ownBlock = none ∨ u.ownBlock ≠ v.ownBlock := by
  cases hu : u.ownBlock with
  | none => exact .inl rfl
  | some k =>
    refine .inr (fun hv => ?_)
    obtain ⟨_, h⟩ := h
    obtain ⟨_, h1⟩ := h1
    rcases h1 with ⟨e1, _⟩ | ⟨g, cap, cur, e1, _, hh, _⟩
    · rw [e1] at hu; cases hu
    · rcases h with ⟨rfl, _⟩ | ⟨g', cap', cur', rfl, _, hh', _⟩
      · cases hv
      · rw [e1] at hu
        simp only [Value.ownBlock, Option.some.injEq] at hu hv
        subst hu
        subst hv
        rw [hh] at hh'
        injection hh' with hh'
        injection hh' with _ hh' _
        exact absurd hh' (by decide)
set_option maxRecDepth 100000 in
theorem rowsV_ne {w : World} {B B' : Nat} {v : Value} {es : List (RowE × Int)} {fs : List RowE} (h : RowsV w B v es) (hf : EntE w B' fs) : ∀ e ∈ fs, (rowV e).ownBlock = none ∨ (rowV e).ownBlock ≠ v.ownBlock := fun e he => ownV_ne (hf.1 e he) h
/-- Votes of the call's own, with rankings of the call's own. -/
def LstV (w : World) (B : Nat) (v : Value) (es : List (RowE × Int)) : Prop := RowsV w B v es ∧ EntE w B (es.map Prod.fst)
set_option maxRecDepth 100000 in
theorem LstV.nil (w : World) (B : Nat) : LstV w B (.slice none 0 0) [] := ⟨RowsV.nil _ _, EntE.nil _ _⟩
set_option maxRecDepth 100000 in
theorem LstV.ext {w w' : World} {B : Nat} {v : Value} {es : List (RowE × Int)} (h : LstV w B v es) (hw : Ext w w') : LstV w' B v es := ⟨h.1.ext hw, h.2.ext hw⟩
set_option maxRecDepth 100000 in
theorem LstV.base {w : World} {B B' : Nat} {v : Value} {es : List (RowE × Int)} (h : LstV w B v es) (hb : B' ≤ B) : LstV w B' v es := ⟨h.1.base hb, h.2.base hb⟩
set_option maxRecDepth 100000 in
theorem LstV.only {w w' : World} {B g : Nat} {v : Value} {es : List (RowE × Int)} (h : LstV w B v es) (hg : g < B) (hw : Only g w w') : LstV w' B v es := by
  refine ⟨World.ownsRow.kept h.1 hw ?_, h.2.only hw (fun e he hk => ?_)⟩
  · cases hv : v.ownBlock with
    | none => exact .inl rfl
    | some k =>
      refine .inr (fun e => ?_)
      injection e with e
      have := (World.ownsRow.lt h.1 k hv).1
      omega
  · have := (h.2.lt e he g hk).1
    omega
set_option maxRecDepth 100000 in
theorem LstV.push {wr w1 w2 wa w3 : World} {H : Nat} {v v' : Value} {es : List (RowE × Int)} {u : RowE} {k : Int} (h : LstV wr H v es) (hH : H ≤ wr.heap.size) (h1 : Ext wr w1) (hu : OwnI w2 w1.heap.size (rowV u) u.xs) (h2 : Ext w2 wa) (hE : Ext wr wa)
    (h3 : RowsV w3 H v' (es ++ [(u, k)])) (hg : wa.grownBy w3 v.ownBlock) : LstV w3 H v' (es ++ [(u, k)]) := by
  refine ⟨h3, ?_⟩
  have hv := h.1.ext hE
  have he := h.2.ext hE
  have hua := hu.ext h2
  rw [List.map_append]
  refine (he.grown hg (rowsV_ne hv he)).add ((hua.keepRow hg (ownV_ne hua hv)).base (Nat.le_trans hH h1.size)) (fun e' he' b hb hb2 => ?_)
  have c1 := (h.2.lt e' he' b hb).2
  have c2 := (World.ownsRow.lt hu b hb2).1
  have c3 := h1.size
  omega
set_option maxRecDepth 100000 in
theorem LstV.add {wa w3 : World} {H : Nat} {v v' : Value} {es : List (RowE × Int)} {u : RowE} {k : Int} (h : LstV wa H v es) (hu : OwnI wa H (rowV u) u.xs) (hfar : ∀ e ∈ es.map Prod.fst, ∀ b, (rowV e).ownBlock = some b → (rowV u).ownBlock ≠ some b)
    (h3 : RowsV w3 H v' (es ++ [(u, k)])) (hg : wa.grownBy w3 v.ownBlock) : LstV w3 H v' (es ++ [(u, k)]) := by
  refine ⟨h3, ?_⟩
  rw [List.map_append]
  exact (h.2.grown hg (rowsV_ne h.1 h.2)).add (hu.keepRow hg (ownV_ne hu h.1)) hfar
set_option maxRecDepth 100000 in
/-- What the votes are, as a value. -/
theorem RowsV.val {w : World} {B : Nat} {v : Value} {es : List (RowE × Int)} (h : RowsV w B v es) : (v = .slice none 0 0 ∧ es = []) ∨ ∃ g c, v = .slice (some ⟨g, 0, none⟩) es.length c ∧ es.length ≤ c ∧ B ≤ g ∧ BlkF w g (es.length * 2) (fun o => (vtL es).getD o undef) := by
  have h0 := h
  obtain ⟨_, h2⟩ := h
  rcases h2 with ⟨rfl, h2⟩ | ⟨g, cap, cur, rfl, hg, hh, hc, hm, hs, ht⟩
  · exact .inl ⟨rfl, List.length_eq_zero_iff.1 h2⟩
  · have hl : g < w.heap.size := (World.ownsRow.lt h0 g rfl).2
    refine .inr ⟨g, cap, rfl, hc, hg, hl, fun o => World.ownsRow.frozenAt h0 o, fun o ho => ?_⟩
    rw [World.ownsRow.cellAt h0 o (by omega)]
    obtain ⟨x, hx⟩ := at_of_lt (xs := vtL es) (k := o) (by rw [vtL_len]; exact ho)
    rw [hx]; simp [List.getD, hx]
def vtsOf (es : List (RowE × Int)) : List Vt := es.map (fun e => (e.1.xs, e.2))
set_option maxRecDepth 100000 in
theorem RowsV.rd {w : World} {B B' : Nat} {a : Option Addr} {n c : Nat} {es : List (RowE × Int)} (h : RowsV w B (.slice a n c) es) (hf : EntE w B' (es.map Prod.fst)) : RdV w a (vtsOf es) := fun hne => by
  have hne' : es ≠ [] := fun e => hne (by rw [e]; rfl)
  rcases h.val with ⟨_, he⟩ | ⟨g, c', hv, hc, hg, hB⟩
  · exact absurd he hne'
  · injection hv with h1 h2 h3
    subst h1
    refine ⟨g, 0, rfl, fun j x hx => ?_⟩
    unfold vtsOf at hx
    rw [List.getElem?_map, Option.map_eq_some_iff] at hx
    obtain ⟨e, he, rfl⟩ := hx
    have hl := lt_of_at he
    obtain ⟨c0, c1⟩ := vtL_at he
    have hO := hf.1 e.1 (List.mem_map_of_mem (List.mem_of_getElem? he))
    obtain ⟨a2, c2, hv2, hc2, _, hR2, _⟩ := hO.val
    unfold rowV at hv2
    injection hv2 with e1 e2 e3
    refine ⟨e.1.a, e.1.c, ?_, ?_, by rw [e3]; exact hc2, by rw [e1]; exact hR2⟩
    · rw [Nat.zero_add, hB.cell _ (by omega), ← e2]
      simp [List.getD, c0, rowV]
    · rw [Nat.zero_add, hB.cell _ (by omega)]
      simp [List.getD, c1]
set_option maxRecDepth 100000 in
theorem run_appV {w : World} (B : Nat) (ty : TypeId) (v : Value) (es : List (RowE × Int)) (e : RowE × Int) (gx : Nat) (hown : RowsV w B v es) (hB : B ≤ w.heap.size) (hc0 : w.cell? ⟨gx, 0, none⟩ = some (rowV e.1)) (hc1 : w.cell? ⟨gx, 1, none⟩ = some (.int .i64 e.2)) (hlen : es.length ≤ 100000) :
    ∃ v' w', (Builtin.append_ #[24, 24] ty #[v, .slice (some ⟨gx, 0, none⟩) 1 1]).run Try.prog w = .ok v' w' ∧ RowsV w' B v' (es ++ [e]) ∧ w.grownBy w' v.ownBlock ∧ Fresh w v v' := by
  obtain ⟨i0, hi, hz0, hz1, hz2⟩ := info_parts info_v
  obtain ⟨v', w', hr, h1, h2, h3⟩ := run_append_any (P := Try.prog) w B 24 ty 59 i0 (.agg #[.slice none 0 0, .int .i64 0]) 2 32 Try.underlying24 hi hz0 hz1 hz2 rfl (by decide) v es.length _ hown (some ⟨gx, 0, none⟩) 1 1 [rowV e.1, .int .i64 e.2] rfl
    (fun _ => ⟨_, rfl, fun j u hj => by
      match j, hj with
      | 0, hj => simp at hj; subst hj; simpa [Addr.add] using hc0
      | 1, hj => simp at hj; subst hj; simpa [Addr.add] using hc1⟩)
    (fun u hu => by
      simp at hu
      rcases hu with rfl | rfl <;> rfl) (by unfold maxLen; omega) (by omega) hB
  refine ⟨v', w', hr, ?_, h2, h3⟩
  unfold RowsV
  rw [vtL_snoc, List.length_append]
  exact h1
set_option maxRecDepth 100000 in
theorem oper_appV {o : Oper} {a : Act} {K : World → Act → Prop} (B : Nat) (w3 : World) (s x : Operand)
    (ho : o.op = .call { callee := .builtin .append, args := #[s, x], argTypes := #[24, 24] }) (v : Value) (es : List (RowE × Int)) (e : RowE × Int) (gx : Nat) (hs : a.eval s = v) (hown : RowsV w3 B v es) (hB : B ≤ w3.heap.size)
    (hx : a.eval x = .slice (some ⟨gx, 0, none⟩) 1 1) (hc0 : w3.cell? ⟨gx, 0, none⟩ = some (rowV e.1)) (hc1 : w3.cell? ⟨gx, 1, none⟩ = some (.int .i64 e.2)) (hlen : es.length ≤ 100000)
    (h : ∀ v' w', RowsV w' B v' (es ++ [e]) → w3.grownBy w' v.ownBlock → Fresh w3 v v' → K w' (a.put o.dst v')) : o.wp Try.prog a w3 (fun a' w' => K w' a') NoExit := by
  obtain ⟨v', w', hr, h1, h2, h3⟩ := run_appV B o.type v es e gx hown hB hc0 hc1 hlen
  unfold Oper.wp execOp
  simp only [ho, resolve, invoke, builtin, Sem.run_bind, Sem.run_pure, Result.andThen_ok, List.map_toArray, List.map_cons, List.map_nil, hs, hx, hr]
  exact h v' w' h1 h2 h3
set_option maxRecDepth 100000 in
theorem wpList_appV {ops : Array Oper} {rest : List Oper} {o : Oper} {a : Act} {Q : Exit → Act → World → Prop} (B : Nat) (w3 : World) (hgd : o.guard = none) (s x : Operand)
    (ho : o.op = .call { callee := .builtin .append, args := #[s, x], argTypes := #[24, 24] }) (v : Value) (es : List (RowE × Int)) (e : RowE × Int) (gx : Nat) (hs : a.eval s = v) (hown : RowsV w3 B v es) (hB : B ≤ w3.heap.size)
    (hx : a.eval x = .slice (some ⟨gx, 0, none⟩) 1 1) (hc0 : w3.cell? ⟨gx, 0, none⟩ = some (rowV e.1)) (hc1 : w3.cell? ⟨gx, 1, none⟩ = some (.int .i64 e.2)) (hlen : es.length ≤ 100000)
    (h : ∀ v' w', RowsV w' B v' (es ++ [e]) → w3.grownBy w' v.ownBlock → Fresh w3 v v' → wpList Try.prog ops Q rest (a.put o.dst v') w') : wpList Try.prog ops Q (o :: rest) a w3 := by
  obtain ⟨v', w', hr, h1, h2, h3⟩ := run_appV B o.type v es e gx hown hB hc0 hc1 hlen
  refine wpList_plain hgd fun K hK => ?_
  unfold Oper.wp execOp
  simp only [ho, resolve, invoke, builtin, Sem.run_bind, Sem.run_pure, Result.andThen_ok, List.map_toArray, List.map_cons, List.map_nil, hs, hx, hr]
  exact hK _ _ (h v' w' h1 h2 h3)
set_option maxRecDepth 100000 in
theorem oper_appVK {o : Oper} {a : Act} {K : World → Act → Prop} {R : World → World → Prop} (B : Nat) (w3 : World) (s x : Operand)
    (ho : o.op = .call { callee := .builtin .append, args := #[s, x], argTypes := #[24, 24] }) (v : Value) (es : List (RowE × Int)) (e : RowE × Int) (gx : Nat) (hs : a.eval s = v) (hown : RowsV w3 B v es) (hB : B ≤ w3.heap.size)
    (hx : a.eval x = .slice (some ⟨gx, 0, none⟩) 1 1) (hc0 : w3.cell? ⟨gx, 0, none⟩ = some (rowV e.1)) (hc1 : w3.cell? ⟨gx, 1, none⟩ = some (.int .i64 e.2)) (hlen : es.length ≤ 100000)
    (h : ∀ v' w', RowsV w' B v' (es ++ [e]) → w3.grownBy w' v.ownBlock → Fresh w3 v v' → R w3 w' ∧ K w' (a.put o.dst v')) : o.wp Try.prog a w3 (fun a' w' => R w3 w' ∧ K w' a') NoExit := by
  obtain ⟨v', w', hr, h1, h2, h3⟩ := run_appV B o.type v es e gx hown hB hc0 hc1 hlen
  unfold Oper.wp execOp
  simp only [ho, resolve, invoke, builtin, Sem.run_bind, Sem.run_pure, Result.andThen_ok, List.map_toArray, List.map_cons, List.map_nil, hs, hx, hr]
  exact h v' w' h1 h2 h3

section
variable {P : Program} {ops : Array Oper}
/-- As wpO, and a step that writes, before or behind all others. -/
def wpP (P : Program) (ops : Array Oper) (Q : Act → World → Prop) : List Nat → Array Bool → World → Act → Prop
  | [], _, W, a => ∀ w, Ext W w → Q a w
  | i :: rest, listed, W, a => ∃ o, ops[i]? = some o ∧
    ((∃ v, YX P ops W o v a ∧ wpP P ops Q rest (listed.setIfInBounds i true) W (a.put o.dst v)) ∨
    (Region.ready .any ops listed = [i] ∧ ∀ w, Ext W w → wpOp P ops NoExit i (fun a' w' => Ext w w' ∧ wpP P ops Q rest (listed.setIfInBounds i true) w' a') a w) ∨
    (Region.ready .any ops listed = [i] ∧ lastB .any ops i = true ∧ Region.ready .any ops (listed.setIfInBounds i true) = [] ∧ ∀ w, Ext W w → wpOp P ops NoExit i (fun a' w' => Q a' w') a w) ∨
    (Region.ready .any ops listed = [i] ∧ cutB .any ops i = true ∧ ∀ w, Ext W w → wpOp P ops NoExit i (fun a' w' => wpP P ops Q rest (listed.setIfInBounds i true) w' a') a w))

set_option maxRecDepth 100000 in
theorem wpP_any {Q : Act → World → Prop} (hs : Region.noSelect ops = true) : ∀ (l : List Nat) (listed : Array Bool) (W : World) (a : Act),
    Closed .any ops listed → ordB ops l listed = true → wpP P ops Q l listed W a → wpAnyX P .any ops Q l.length listed W a
  | [], _, _, _, _, hB, h => ⟨by simpa [ordB] using hB, h⟩
  | i :: l, listed, W, a, hcl, hB, h => by
    simp only [ordB, Bool.and_eq_true] at hB
    obtain ⟨⟨hr, hf⟩, hB'⟩ := hB
    have hcl' := hcl.set (j := i) (by simpa using hr)
    obtain ⟨o, h0, h⟩ := h
    rcases h with ⟨v, hy, hK⟩ | ⟨hsole', hK⟩ | ⟨hsole', hlast, hend, hK⟩ | ⟨hsole', hcut, hK⟩
    · exact wpAnyX_first h0 (Region.noSelect_spec hs) l.length _ W a (Region.free_spec h0 hf) hcl (by simpa using hr) hy (wpP_any hs l _ W _ hcl' hB' hK)
    · refine ⟨fun h => (by rw [h] at hsole'; cases hsole'), fun j hj w hw => ?_⟩
      have hik : j = i := by rw [hsole'] at hj; simpa using hj
      subst hik
      exact wpOp_mono (fun a' w' h3 => .inl ⟨h3.1, wpP_any hs l _ w' a' hcl' hB' h3.2⟩) (hK w hw)
    · refine ⟨fun h => (by rw [h] at hsole'; cases hsole'), fun j hj w hw => ?_⟩
      have hik : j = i := by rw [hsole'] at hj; simpa using hj
      subst hik
      exact wpOp_mono (fun a' w' h3 => .inr (.inl ⟨hlast, hend, h3⟩)) (hK w hw)
    · refine ⟨fun h => (by rw [h] at hsole'; cases hsole'), fun j hj w hw => ?_⟩
      have hik : j = i := by rw [hsole'] at hj; simpa using hj
      subst hik
      exact wpOp_mono (fun a' w' h3 => .inr (.inr ⟨hcut, wpP_any hs l _ w' a' hcl' hB' h3⟩)) (hK w hw)

set_option maxRecDepth 100000 in
theorem wp_region_P {id : Nat} {Q : Exit → Act → World → Prop} {a : Act} {w : World} {l : List Oper} (is : List Nat) (hm : P.follows .mixedOrders = true) (hlen : is.length = l.length)
    (hB : (Region.noSelect l.toArray && ordB l.toArray is (Array.replicate l.length false)) = true)
    (h : wpP P l.toArray (fun a' w' => Q .normal a' w') is (Array.replicate l.length false) w a) : (Code.region id l.toArray true).wp P Q a w := by
  simp only [Bool.and_eq_true] at hB
  have key : ∀ (l' : List Nat) (listed : Array Bool) (a : Act), wpP P l.toArray (fun a' w' => Q .normal a' w') l' listed w a → wpP P l.toArray (fun a' w' => Q .normal a' w') l' listed w.drew a := by
    intro l'
    induction l' with
    | nil => intro listed a h w' hw'; exact h w' (((Ext.refl w).drew).trans hw')
    | cons i l' ih =>
      intro listed a h
      obtain ⟨o, h0, h⟩ := h
      refine ⟨o, h0, ?_⟩
      rcases h with ⟨v, hy, hK⟩ | ⟨hs, hK⟩ | ⟨hs, h1, h2, hK⟩ | ⟨hs, h1, hK⟩
      · exact .inl ⟨v, hy.mono ((Ext.refl w).drew), ih _ _ hK⟩
      · exact .inr (.inl ⟨hs, fun w' hw' => hK w' (((Ext.refl w).drew).trans hw')⟩)
      · exact .inr (.inr (.inl ⟨hs, h1, h2, fun w' hw' => hK w' (((Ext.refl w).drew).trans hw')⟩))
      · exact .inr (.inr (.inr ⟨hs, h1, fun w' hw' => hK w' (((Ext.refl w).drew).trans hw')⟩))
  have h1 := wpP_any (P := P) (Q := fun a' w' => Q .normal a' w') hB.1 is _ w.drew a (Closed.start _ _ _) hB.2 (key is _ a h)
  rw [hlen] at h1
  exact wp_region_any hm (wpAny_of_X (fun _ _ h => h) _ _ _ _ (by simpa using h1))

set_option maxRecDepth 100000 in
theorem wpP_stepQ {Q : Act → World → Prop} {o : Oper} {i : Nat} {rest : List Nat} {listed : Array Bool} {W : World} {a : Act} (h0 : ops[i]? = some o)
    (h : ∀ K : Act → Prop, (∀ a, wpP P ops Q rest (listed.setIfInBounds i true) W a → K a) → if Region.wanted o (yielded ops a.tmps) then ∃ v, QX P W o a v ∧ K (a.put o.dst v) else K (a.put o.dst undef)) : wpP P ops Q (i :: rest) listed W a := by
  have h1 := h _ (fun _ h => h)
  refine ⟨o, h0, .inl ?_⟩
  by_cases hw : Region.wanted o (yielded ops a.tmps) = true
  · simp only [hw, if_true] at h1
    obtain ⟨v, hq, hK⟩ := h1
    exact ⟨v, .inl ⟨hw, hq⟩, hK⟩
  · simp only [hw] at h1
    exact ⟨undef, .inr ⟨by simpa using hw, rfl⟩, h1⟩

set_option maxRecDepth 100000 in
theorem wpP_stepS {Q : Act → World → Prop} {o : Oper} {i : Nat} {rest : List Nat} {listed : Array Bool} {W : World} {a : Act} (h0 : ops[i]? = some o) (hs : (Region.ready .any ops listed == [i]) = true)
    (h : ∀ K : World → Act → Prop, (∀ W a, wpP P ops Q rest (listed.setIfInBounds i true) W a → K W a) → ∀ w, Ext W w →
      if Region.wanted o (yielded ops a.tmps) then o.wp P a w (fun a' w' => Ext w w' ∧ K w' a') NoExit else K w (a.put o.dst undef)) : wpP P ops Q (i :: rest) listed W a := by
  refine ⟨o, h0, .inr (.inl ⟨by simpa using hs, fun w hw' => ?_⟩)⟩
  have h1 := h _ (fun _ _ h => h) w hw'
  unfold wpOp
  simp only [h0]
  by_cases hw : Region.wanted o (yielded ops a.tmps) = true
  · simp only [hw, if_true] at h1 ⊢
    exact .inl h1
  · simp only [hw] at h1 ⊢
    exact ⟨Ext.refl _, h1⟩

set_option maxRecDepth 100000 in
theorem wpP_stepC {Q : Act → World → Prop} {o : Oper} {i : Nat} {rest : List Nat} {listed : Array Bool} {W : World} {a : Act} (h0 : ops[i]? = some o) (hs : (Region.ready .any ops listed == [i] && cutB .any ops i) = true)
    (h : ∀ K : World → Act → Prop, (∀ W a, wpP P ops Q rest (listed.setIfInBounds i true) W a → K W a) → ∀ w, Ext W w →
      if Region.wanted o (yielded ops a.tmps) then o.wp P a w (fun a' w' => K w' a') NoExit else K w (a.put o.dst undef)) : wpP P ops Q (i :: rest) listed W a := by
  rw [Bool.and_eq_true] at hs
  refine ⟨o, h0, .inr (.inr (.inr ⟨by simpa using hs.1, hs.2, fun w hw' => ?_⟩))⟩
  have h1 := h _ (fun _ _ h => h) w hw'
  unfold wpOp
  simp only [h0]
  by_cases hw : Region.wanted o (yielded ops a.tmps) = true
  · simp only [hw, if_true] at h1 ⊢
    exact .inl h1
  · simp only [hw] at h1 ⊢
    exact h1

set_option maxRecDepth 100000 in
theorem wpP_stepL {Q : Act → World → Prop} {o : Oper} {i : Nat} {rest : List Nat} {listed : Array Bool} {W : World} {a : Act} (h0 : ops[i]? = some o) (hs : (Region.ready .any ops listed == [i]) = true) (hl : lastB .any ops i = true)
    (he : (Region.ready .any ops (listed.setIfInBounds i true)).isEmpty = true)
    (h : ∀ K : Act → World → Prop, (∀ a w, Q a w → K a w) → ∀ w, Ext W w → if Region.wanted o (yielded ops a.tmps) then o.wp P a w K NoExit else K (a.put o.dst undef) w) : wpP P ops Q (i :: rest) listed W a := by
  refine ⟨o, h0, .inr (.inr (.inl ⟨by simpa using hs, hl, List.isEmpty_iff.1 he, fun w hw' => ?_⟩))⟩
  have h1 := h _ (fun _ _ h => h) w hw'
  unfold wpOp
  simp only [h0]
  by_cases hw : Region.wanted o (yielded ops a.tmps) = true
  · simp only [hw, if_true] at h1 ⊢
    exact .inl h1
  · simp only [hw] at h1 ⊢
    exact h1

set_option maxRecDepth 100000 in
theorem wpP_nil {Q : Act → World → Prop} {listed : Array Bool} {W : World} {a : Act} (h : ∀ w, Ext W w → Q a w) : wpP P ops Q [] listed W a := h
end

def boxF (s : Int) (v : Value) (o : Nat) : Value := if o = 0 then .int .i64 s else if o = 1 then v else undef

set_option maxRecDepth 100000 in
set_option maxHeartbeats 4000000 in
theorem chg_impl (K : Nat) (fst cap : Array Value) (F : List Int → List Int) (w : World) (sz s2 : Int) (a : Option Addr) (c : Nat) (vs : List Vt) (hR : RdV w a vs) (h0 : profOk sz vs = true) (hK : Enters Try.prog K)
    (hf : ∀ (x : Vt) (a' : Option Addr) (c' : Nat) (w' : World), x ∈ vs → Ext w w' → RdI w' a' x.1 → x.1.length ≤ c' → Calls Try.prog K (fst.push (.slice a' x.1.length c') ++ cap) w' fun e w'' => ∃ u, e = .returned u ∧ OwnI w'' w'.heap.size u (F x.1) ∧ Ext w' w'') :
    Calls Try.prog 40 #[.agg #[.int .i64 sz, .slice a vs.length c], .int .i64 s2, .func (.func K) fst cap] w fun e w' => ∃ v es, e = .returned (.tuple #[.agg #[.int .i64 s2, v], .bool true]) ∧ LstV w' w.heap.size v es ∧ vtsOf es = vs.map (fun x => (F x.1, x.2)) ∧ Ext w w' := by
  unfold Enters at hK
  have HF := hide hf
  clear hf
  have hvl := (prof_small h0).1
  have q0 := new0 w (.int .i64 sz) [.slice a vs.length c] 26
  have q1 := new1 w (.int .i64 sz) (.slice a vs.length c) [] 26
  have hs1 : (w.alloc (.cells #[.int .i64 sz, .slice a vs.length c] 26)).heap.size = w.heap.size + 1 := by simp
  have p0 := BlkF.new (w.alloc (.cells #[.int .i64 sz, .slice a vs.length c] 26)) #[.int .i64 0, .slice none 0 0] 26
  rw [hs1] at p0
  have P0 := hide p0
  clear p0 hs1
  go_enter Try.func40, Try.ntmps40
  go_wp2_with (go_at_call 17; refine (prof_impl _ _ _ _ _ (hR.ext (by repeat (first | exact Ext.refl _ | assumption | refine Ext.alloc ?_ _ | refine Ext.drew ?_ | refine Ext.trans ?_ (by assumption))))).mono ?_; rintro e w1 ⟨rfl, hw1⟩; have q0 := Ext.keep (w' := w1) (by repeat (first | exact Ext.refl _ | assumption | refine Ext.alloc ?_ _ | refine Ext.drew ?_ | refine Ext.trans ?_ (by assumption))) q0; have q1 := Ext.keep (w' := w1) (by repeat (first | exact Ext.refl _ | assumption | refine Ext.alloc ?_ _ | refine Ext.drew ?_ | refine Ext.trans ?_ (by assumption))) q1)
  have P1 := hide (P0.out.ext hw1)
  have hw : Ext w w1 := (by repeat (first | exact Ext.refl _ | assumption | refine Ext.alloc ?_ _ | refine Ext.drew ?_ | refine Ext.trans ?_ (by assumption)))
  clear P0 hw1
  obtain ⟨wb, hwb⟩ : ∃ wb : World, wb = w1 := ⟨_, rfl⟩
  subst hwb
  have hB := (BlkF.new wb #[.int .i64 s2, .slice none 0 0] 26).congr (f' := boxF s2 (.slice none 0 0)) (fun o ho => by
    match o, ho with
    | 0, _ => rfl
    | 1, _ => rfl)
  have hE0 := Ext.new wb (.cells #[.int .i64 s2, .slice none 0 0] 26)
  have hlt := hB.lt
  generalize wb.alloc (.cells #[.int .i64 s2, .slice none 0 0] 26) = W0 at hB hE0 hlt ⊢
  obtain ⟨H, hH⟩ : ∃ H : Nat, H = W0.heap.size := ⟨_, rfl⟩
  obtain ⟨g, hg⟩ : ∃ g : Nat, g = wb.heap.size := ⟨_, rfl⟩
  rw [← hg] at hB hlt ⊢
  rw [← hH] at hlt
  have hgw : w.heap.size ≤ g := by rw [hg]; exact hw.size
  have hHs : H ≤ W0.heap.size := by omega
  have hgb : wb.heap.size ≤ g := by omega
  have hB := hB.congr (f' := boxF s2 (.slice none 0 0)) (fun _ _ => rfl)
  clear hH hg
  go_wp2_with fail
  go_loopw [10, 20] (fun _ i wr => ∃ (k : Nat) (v : Value) (es : List (RowE × Int)), k ≤ vs.length ∧ i = .int .i64 k ∧ BlkF wr g 2 (boxF s2 v) ∧ LstV wr H v es ∧ Hid (vtsOf es = (vs.take k).map (fun x => (F x.1, x.2))) ∧ H ≤ wr.heap.size ∧ Ext wb wr) (fun _ i _ => vs.length - (intOf i).toNat)
  case atStart => exact ⟨0, _, [], Nat.zero_le _, rfl, hB, LstV.nil _ _, rfl, hHs, hE0⟩
  case round =>
    clear hB hE0 hHs
    obtain ⟨k, v, es, hk, rfl, hB, hl, hmap, hHs, hwr⟩ := hrel
    have b0 := hB.cell 0 (by omega)
    have b1 := hB.cell 1 (by omega)
    have hb0 : boxF s2 v 0 = .int .i64 s2 := rfl
    have hb1 : boxF s2 v 1 = v := rfl
    rw [hb0] at b0
    rw [hb1] at b1
    by_cases hkt : k < vs.length
    · obtain ⟨x, hx⟩ := at_of_lt hkt
      obtain ⟨b, off, a', c', rfl, c0, c1, hc', hRx⟩ := (hR.ext (hw.trans hwr)).at_ hx
      have hel : es.length ≤ 24 := by
        have h1 := congrArg List.length hmap.out
        unfold vtsOf at h1
        rw [List.length_map, List.length_map, List.length_take] at h1
        omega
      have HC := hide (fun w' (hw' : Ext wr w') => HF.out x a' c' w' (List.mem_of_getElem? hx) ((hw.trans hwr).trans hw') (hRx.ext hw') hc')
      have HN : Hid (∀ (u : RowE), u.xs = F x.1 → vtsOf (es ++ [(u, x.2)]) = (vs.take (k + 1)).map (fun x => (F x.1, x.2))) := fun u hu => by
        rw [take_at hx, List.map_append, ← hmap.out]
        simp [vtsOf, hu]
      have HL := hide hl
      have HB := hide hB
      clear hx hRx hl hB hb0 hb1
      go_wp2
      refine wp_region_P [0,1,2,3,4,6,7,5,8,9,10,11,12] (by kernel_rfl) rfl (by kernel_rfl) ?_
      repeat' (refine wpP_stepQ rfl (fun K hK => ?_)
               go_simp
               try (rw [if_neg (by intro h; simp [undef] at h)])
               try split
               all_goals
                 first
                 | (refine hK _ ?_
                    clear hK K)
                 | (apply Exists.intro
                    refine ⟨fun wq hwq => ?_, hK _ ?_⟩
                    · have hcq := hwq.cellS
                      go_simp
                      first
                      | exact ⟨Ext.refl _, rfl⟩
                    clear hK K))
      refine wpP_stepS rfl (by kernel_rfl) (fun K hK wq hwq => ?_)
      go_simp
      refine (HC.out _ (by repeat (first | exact Ext.refl _ | assumption | refine Ext.alloc ?_ _ | refine Ext.drew ?_ | refine Ext.trans ?_ (by assumption)))).mono ?_
      rintro e w3 ⟨u, rfl, hu, hw3⟩
      refine ⟨hw3, hK _ _ ?_⟩
      clear hK K
      obtain ⟨a5, n5, c5, rfl⟩ := hu.form
      have hEy : Ext wr wq := (by repeat (first | exact Ext.refl _ | assumption | refine Ext.alloc ?_ _ | refine Ext.drew ?_ | refine Ext.trans ?_ (by assumption)))
      obtain ⟨wy, hwy⟩ : ∃ wy : World, wy = wq := ⟨_, rfl⟩
      subst hwy
      repeat' (refine wpP_stepQ rfl (fun K hK => ?_)
               go_simp
               try (rw [if_neg (by intro h; simp [undef] at h)])
               try split
               all_goals
                 first
                 | (refine hK _ ?_
                    clear hK K)
                 | (apply Exists.intro
                    refine ⟨fun wq hwq => ?_, hK _ ?_⟩
                    · have hcq := hwq.cellS
                      go_simp
                      first
                      | exact ⟨Ext.refl _, rfl⟩
                    clear hK K))
      refine wpP_stepS rfl (by kernel_rfl) (fun K hK wq hwq => ?_)
      go_simp
      refine ⟨(by repeat (first | exact Ext.refl _ | assumption | refine Ext.alloc ?_ _ | refine Ext.drew ?_ | refine Ext.trans ?_ (by assumption))), hK _ _ ?_⟩
      clear hK K
      refine wpP_stepC rfl (by kernel_rfl) (fun K hK' wa hwa => ?_)
      refine Eq.mpr (if_pos rfl) ?_
      have hEa : Ext wr wa := (by repeat (first | exact Ext.refl _ | assumption | refine Ext.alloc ?_ _ | refine Ext.drew ?_ | refine Ext.trans ?_ (by assumption)))
      have hLa := HL.out.ext hEa
      refine oper_appV H wa _ _ rfl v es (⟨a5, n5, c5, F x.1⟩, x.2) _ rfl hLa.1 (Nat.le_trans hHs hEa.size) rfl (hwa.keep (new0 wq _ _ _)) (hwa.keep (new1 wq _ _ _ _)) (by omega) ?_
      intro v' w4 hown4 hg4 hf4
      have hro : ∀ b, v.ownBlock = some b → H ≤ b := fun b hb => (World.ownsRow.lt HL.out.1 b hb).1
      have hB4 := (HB.out.ext hEa).grown hg4 (fun b hb => by have := hro b hb; omega)
      have hE4 : Ext wb w4 := Ext.grown (hwr.trans hEa) hg4 (fun b hb => by have := hro b hb; omega)
      have hL4 := HL.out.push (u := ⟨a5, n5, c5, F x.1⟩) (k := x.2) hHs hEy hu ((hwq.alloc _).trans hwa) hEa hown4 hg4
      have z1 := hB4.fr 1
      have d1 := hB4.cell 1 (by omega)
      rw [show boxF s2 v 1 = v from rfl] at d1
      have hsz4 := Nat.le_trans hHs (Nat.le_trans hEa.size hg4.size)
      obtain ⟨av, nv, cv, rfl⟩ : ∃ av nv cv, v' = .slice av nv cv := by
        rcases hL4.1.val with ⟨h, _⟩ | ⟨g9, c9, h, _⟩
        · exact ⟨_, _, _, h⟩
        · exact ⟨_, _, _, h⟩
      have HL4 := hide hL4
      have HB4 := hide hB4
      clear hLa hro hown4 hg4 hf4 hL4 hB4 hEa hu hwa hwq hw3 b0 b1 c0 c1
      refine hK' _ _ ?_
      clear hK' K
      repeat' (refine wpP_stepQ rfl (fun K hK => ?_)
               go_simp
               try (rw [if_neg (by intro h; simp [undef] at h)])
               try split
               all_goals
                 first
                 | (refine hK _ ?_
                    clear hK K)
                 | (apply Exists.intro
                    refine ⟨fun wq hwq => ?_, hK _ ?_⟩
                    · have hcq := hwq.cellS
                      go_simp
                      first
                      | exact ⟨Ext.refl _, rfl⟩
                    clear hK K))
      refine wpP_stepL rfl (by kernel_rfl) (by kernel_rfl) (by kernel_rfl) (fun K hK wz hwz => ?_)
      have hcz := hwz.cellS
      have hfz := hwz.frozenS
      go_simp
      refine hK _ _ ?_
      clear hK K
      go_wp2
      have hOg : Only g wz (wz.setCell ⟨g, 1, none⟩ (.slice av nv cv)) := (Only.refl g wz).setCell 1 _
      refine ⟨⟨k + 1, .slice av nv cv, es ++ [(⟨a5, n5, c5, F x.1⟩, x.2)], by omega, by go_num, ?_, (HL4.out.ext hwz).only hlt hOg, HN.out _ rfl, ?_, Only.ext (hE4.trans hwz) hOg hgb⟩, by simp [intOf]; omega⟩
      · refine ((HB4.out.ext hwz).set 1 (by omega) _).congr (fun o ho => ?_)
        match o, ho with
        | 0, _ => rfl
        | 1, _ => rfl
      · exact Nat.le_trans hsz4 (Nat.le_trans hwz.size hOg.size)
    · have HM : Hid (vtsOf es = vs.map (fun x => (F x.1, x.2))) := hide (by rw [hmap.out, List.take_of_length_le (by omega)])
      have HL := hide hl
      have p1 := P1.out.ext hwr
      have r0 := p1.cell 0 (by simp)
      have r1 := p1.cell 1 (by simp)
      have z0 := p1.fr 0
      have z1 := p1.fr 1
      obtain ⟨av, nv, cv, rfl⟩ : ∃ av nv cv, v = .slice av nv cv := by
        rcases hl.1.val with ⟨h, _⟩ | ⟨g9, c9, h, _⟩
        · exact ⟨_, _, _, h⟩
        · exact ⟨_, _, _, h⟩
      have hww := hw.trans hwr
      have hp8 : w.heap.size + 1 < H := by have := P1.out.lt; omega
      clear hl hB p1 hmap hb0 hb1
      go_wp2
      have hO1 : Only (w.heap.size + 1) wr ((wr.setCell ⟨w.heap.size + 1, 0, none⟩ (.int .i64 s2)).setCell ⟨w.heap.size + 1, 1, none⟩ (.slice av nv cv)) := ((Only.refl _ wr).setCell 0 _).setCell 1 _
      refine bodyPost_ret (v := .tuple #[.agg #[.int .i64 s2, .slice av nv cv], .bool true]) (by simp [results, Try.results40, go_sem, r0, r1]) rfl ⟨_, es, rfl, (HL.out.only hp8 hO1).base (by omega), HM.out, Only.ext hww hO1 (by omega)⟩

set_option maxRecDepth 100000 in
set_option maxHeartbeats 1000000 in
theorem equN_impl (w : World) (a1 a2 : Option Addr) (c1 c2 n : Nat) (xs ys : List Int) (hX : RdI w a1 xs) (hY : RdI w a2 ys) (hl : n ≤ 2000000) (hxn : Hid (xs.length = n)) (hyn : Hid (ys.length = n)) :
    Calls Try.prog 71 #[.slice a1 n c1, .slice a2 n c2] w fun e w' => e = .returned (.bool (decide (xs = ys))) ∧ Ext w w' := by
  go_enter Try.func71, Try.ntmps71
  go_wp2_with fail
  go_loopw [5, 13] (fun _ i wr => ∃ k : Nat, k ≤ n ∧ i = .int .i64 k ∧ Hid (xs.take k = ys.take k) ∧ Ext w wr) (fun _ i _ => n - (intOf i).toNat)
  case atStart => exact ⟨0, Nat.zero_le _, rfl, rfl, Ext.refl _⟩
  case round =>
    obtain ⟨k, hk, rfl, hall, hwr⟩ := hrel
    by_cases hlt : k < n
    · obtain ⟨x, hx⟩ := at_of_lt (xs := xs) (k := k) (by rw [hxn.out]; exact hlt)
      obtain ⟨y, hy⟩ := at_of_lt (xs := ys) (k := k) (by rw [hyn.out]; exact hlt)
      obtain ⟨b, off, rfl, c0⟩ := (hX.ext hwr).at_ hx
      obtain ⟨b', off', rfl, d0⟩ := (hY.ext hwr).at_ hy
      have hx' := hide hx
      have hy' := hide hy
      clear hx hy
      cases e : (x != y)
      all_goals
        go_wp2
        refine wp_region_X (by kernel_rfl) (by kernel_rfl) ?_
        repeat' (refine wpX_stepQ (fun K hK => ?_)
                 go_simp
                 try (rw [if_neg (by intro h; simp [undef] at h)])
                 try split
                 all_goals
                   first
                   | (refine hK _ ?_
                      clear hK K)
                   | (apply Exists.intro
                      refine ⟨fun wq hwq => ?_, hK _ ?_⟩
                      · have hcq := hwq.cellS
                        go_simp
                        first
                        | exact ⟨Ext.refl _, rfl⟩
                      clear hK K))
        refine wpX_nil (fun wz hwz => ?_)
        go_wp2
      · exact ⟨⟨k + 1, by omega, by go_num, take_ext hall.out hx'.out hy'.out (by simpa using e), hwr.trans hwz⟩, by simp [intOf]; omega⟩
      · go_ret
        refine ⟨ret_bool ?_, hwr.trans hwz⟩
        have h1 := hx'.out
        have h2 := hy'.out
        symm
        rw [decide_eq_false_iff_not]
        rintro rfl
        rw [h1] at h2
        injection h2 with h2
        simp [h2] at e
    · go_wp2
      go_ret
      refine ⟨ret_bool ?_, hwr⟩
      have h := hall.out
      rw [List.take_of_length_le (by rw [hxn.out]; omega), List.take_of_length_le (by rw [hyn.out]; omega)] at h
      simp [h]

set_option maxRecDepth 100000 in
theorem equ_impl (w : World) (a1 a2 : Option Addr) (c1 c2 : Nat) (xs ys : List Int) (hX : RdI w a1 xs) (hY : RdI w a2 ys) (hl : xs.length ≤ 2000000) :
    Calls Try.prog 71 #[.slice a1 xs.length c1, .slice a2 ys.length c2] w fun e w' => e = .returned (.bool (decide (xs = ys))) ∧ Ext w w' := by
  by_cases hlen : xs.length = ys.length
  · rw [← hlen]
    exact equN_impl w a1 a2 c1 c2 xs.length xs ys hX hY hl rfl hlen.symm
  · go_enter Try.func71, Try.ntmps71
    go_wp2
    go_ret
    exact ⟨ret_bool (by simp; rintro rfl; exact hlen rfl), (by repeat (first | exact Ext.refl _ | assumption | refine Ext.alloc ?_ _ | refine Ext.drew ?_ | refine Ext.trans ?_ (by assumption)))⟩

end Go.Proofs.Ytkbbcglghfddjaa
