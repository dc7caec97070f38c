/- A whole list appended to a list of the call's own, wherever it lies (also an empty one that lies nowhere). Lists of lists as entries: where each row lies and what it holds. Rows appended to a list of rows of the call's own. Votes that are appended one by one: where each ranking lies, and its count. -/
import Derived.Test.YtfmeklgdaabooaaGreatDoorCn7
import Derived.Test.YtfmeklgdaabooaaGreatDoorCn2
namespace Go.Proofs.YtfmeklgdaabooaaGreatDoor
open Go.RowKit

set_option maxRecDepth 100000 in
theorem run_append_none {P : Program} (w : World) (base : Nat) (t ty e : TypeId) (i : TypeInfo) (size : Nat) (ht : P.underlying t = some (.slice e)) (hi : P.info? e = some i)
    (v : Value) (n : Nat) (xs : List Value) (hown : w.ownsRow base e size v n xs) (ax : Option Addr) (c : Nat) :
    (Builtin.append_ #[t, t] ty #[v, .slice ax 0 c]).run P w = .ok v w := by
  rcases hown.2 with ⟨rfl, rfl⟩ | ⟨g, cap, cur, rfl, _, _, hnc, _⟩ <;> cases ax
  · simp [Builtin.append_, run_underlying ht, sizeOf, typeInfo, hi, Builtin.lenOf, Builtin.firstCells]
  · simp [Builtin.append_, run_underlying ht, sizeOf, typeInfo, hi, Builtin.lenOf, Builtin.firstCells, loadCells, loadCellsFrom]
  · simp [Builtin.append_, run_underlying ht, sizeOf, typeInfo, hi, Builtin.lenOf, Builtin.firstCells, hnc, storeCells]
  · simp [Builtin.append_, run_underlying ht, sizeOf, typeInfo, hi, Builtin.lenOf, Builtin.firstCells, hnc, storeCells, loadCells, loadCellsFrom]

set_option maxRecDepth 100000 in
theorem run_append_any {P : Program} (w : World) (base : Nat) (t ty e : TypeId) (i : TypeInfo) (z : Value) (size bytes : Nat) (ht : P.underlying t = some (.slice e)) (hi : P.info? e = some i) (hz : i.zero = some z)
    (hsize : i.size = size) (hby : i.bytes = bytes) (hzs : z.cells.size = size) (hsz : 0 < size)
    (v : Value) (n : Nat) (xs : List Value) (hown : w.ownsRow base e size v n xs)
    (ax : Option Addr) (m c : Nat) (news : List Value) (hl : news.length = m * size) (hnews : news ≠ [] → ∃ a, ax = some a ∧ ∀ (j : Nat) u, news[j]? = some u → w.cell? (a.add j) = some u) (h1 : ∀ u ∈ news, u.oneCell' = true)
    (h63 : n + m ≤ maxLen) (hbytes : (n + m) * bytes ≤ 140737488355328) (hbase : base ≤ w.heap.size) :
    ∃ v' w', (Builtin.append_ #[t, t] ty #[v, .slice ax m c]).run P w = .ok v' w' ∧ w'.ownsRow base e size v' (n + m) (xs ++ news) ∧ w.grownBy w' v.ownBlock ∧ Fresh w v v' := by
  by_cases hm : m = 0
  · subst hm
    have hn : news = [] := List.length_eq_zero_iff.1 (by simpa using hl)
    subst hn
    refine ⟨v, w, run_append_none w base t ty e i size ht hi v n xs hown ax c, by simpa using hown, ⟨rfl, rfl, rfl, Nat.le_refl _, fun _ _ _ => rfl⟩, .inl rfl⟩
  · obtain ⟨a, rfl, hc⟩ := hnews (fun e => by
      rw [e] at hl
      have := Nat.mul_pos (Nat.pos_of_ne_zero hm) hsz
      simp only [List.length_nil] at hl; omega)
    exact run_append_fresh w base t ty e i z size bytes ht hi hz hsize hby hzs hsz v n xs hown a m c news hl hc h1 (by omega) h63 hbytes hbase

set_option maxRecDepth 100000 in
theorem wpList_appG {ops : Array Oper} {rest : List Oper} {o : Oper} {a : Act} {Q : Exit → Act → World → Prop} (B : Nat) (w3 : World) (hgd : o.guard = none) (s x : Operand)
    (ho : o.op = .call { callee := .builtin .append, args := #[s, x], argTypes := #[28, 28] }) (v : Value) (xs ys : List Int) (hs : a.eval s = v) (hown : OwnI w3 B v xs) (hB : B ≤ w3.heap.size)
    (ax : Option Addr) (n c : Nat) (hn : n = ys.length) (hx : a.eval x = .slice ax n c) (hR : RdI w3 ax ys) (hlen : xs.length + ys.length ≤ 2000000)
    (h : ∀ v' w', OwnI w' B v' (xs ++ ys) → w3.grownBy w' v.ownBlock → Fresh w3 v v' → wpList Tryz.prog ops Q rest (a.put o.dst v') w') : wpList Tryz.prog ops Q (o :: rest) a w3 := by
  obtain ⟨i0, hi, hz0, hz1, hz2⟩ := info_parts info_int
  subst hn
  obtain ⟨v', w', hr, h1, h2, h3⟩ := run_append_any (P := Tryz.prog) w3 B 28 o.type 3 i0 (.int .i64 0) 1 8 Tryz.underlying28 hi hz0 hz1 hz2 rfl (by decide) v xs.length _ hown ax ys.length c (ys.map (Value.int .i64)) (by simp)
    (fun hne => by
      obtain ⟨b, off, rfl, hc⟩ := hR (fun e => hne (by rw [e]; rfl))
      refine ⟨_, rfl, fun j u hj => ?_⟩
      rw [List.getElem?_map, Option.map_eq_some_iff] at hj
      obtain ⟨y, hy, rfl⟩ := hj
      have := hc j y hy
      by_cases hj0 : j = 0
      · subst hj0
        simpa [Addr.add] using this
      · simpa [Addr.add, hj0] using this)
    (fun u hu => by
      obtain ⟨y, _, rfl⟩ := List.mem_map.1 hu
      rfl) (by unfold maxLen; omega) (by omega) hB
  refine wpList_plain hgd fun K hK => ?_
  unfold Oper.wp execOp
  simp only [ho, resolve, invoke, builtin, Sem.run_bind, Sem.run_pure, Result.andThen_ok, List.map_toArray, List.map_cons, List.map_nil, hs, hx, hr]
  refine hK _ _ (h v' w' ?_ h2 h3)
  unfold OwnI
  rw [List.map_append, List.length_append]
  exact h1

set_option maxRecDepth 100000 in
theorem OwnI.rdI {w : World} {B : Nat} {a : Option Addr} {n c : Nat} {xs : List Int} (h : OwnI w B (.slice a n c) xs) : RdI w a xs := by
  obtain ⟨a', c', e, _, _, hR, _⟩ := h.val
  injection e with e1 e2 e3
  subst e1
  exact hR
set_option maxRecDepth 100000 in
/-- A part of a list that is read, from k on (the address stays where nothing is left behind it). -/
theorem RdI.drop {w : World} {b off n : Nat} {xs : List Int} (h : RdI w (some ⟨b, off, none⟩) xs) (k c : Nat) (hc : xs.length ≤ c) (hn : n = off + k) : RdI w (if c = k then some ⟨b, off, none⟩ else some ⟨b, n, none⟩) (xs.drop k) := fun hne => by
  have hk : k < xs.length := by
    rcases Nat.lt_or_ge k xs.length with h | h
    · exact h
    · exact absurd (List.drop_eq_nil_of_le h) hne
  obtain ⟨b', off', e, hc'⟩ := h (fun e => by rw [e] at hk; simp at hk)
  injection e with e
  injection e with e1 e2
  subst e1 e2
  rw [if_neg (by omega)]
  subst hn
  refine ⟨b, off + k, rfl, fun j x hx => ?_⟩
  rw [List.getElem?_drop] at hx
  rw [Nat.add_assoc]
  exact hc' (k + j) x hx
set_option maxRecDepth 100000 in
/-- A list of the call's own, cut short. -/
theorem OwnI.short {w : World} {B : Nat} {a : Option Addr} {n c : Nat} {xs : List Int} (h : OwnI w B (.slice a n c) xs) (k : Nat) (hk : k ≤ xs.length) : OwnI w B (.slice a k c) (xs.take k) := by
  obtain ⟨h1, h2⟩ := h
  have hl : (xs.take k).length = k := by rw [List.length_take]; omega
  refine ⟨by simp, ?_⟩
  rw [hl]
  rcases h2 with ⟨e, h0⟩ | ⟨g, cap, cur, e, hg, hh, hc, hm, hs, ht⟩
  · injection e with e1 e2 e3
    subst e1 e3
    have : k = 0 := by omega
    subst this
    exact .inl ⟨rfl, rfl⟩
  · injection e with e1 e2 e3
    subst e1 e3
    refine .inr ⟨g, c, cur, rfl, hg, hh, by omega, hm, hs, ?_⟩
    rw [Nat.mul_one] at ht ⊢
    rw [List.map_take, ← ht, List.take_take, Nat.min_eq_left hk]

/-- All rows are the call's own, no two of them in one block. -/
def EntE (w : World) (B : Nat) (es : List RowE) : Prop := (∀ e ∈ es, OwnI w B (rowV e) e.xs) ∧ es.Pairwise (fun e e' => ∀ k, (rowV e).ownBlock = some k → (rowV e').ownBlock ≠ some k)
/-- The outer list holds the entries. -/
def RowsE (w : World) (B : Nat) (v : Value) (es : List RowE) : Prop := w.ownsRow B 28 1 v es.length (es.map rowV)
set_option maxRecDepth 100000 in
theorem EntE.nil (w : World) (B : Nat) : EntE w B [] := ⟨fun _ h => by simp at h, List.Pairwise.nil⟩
set_option maxRecDepth 100000 in
theorem EntE.ext {w w' : World} {B : Nat} {es : List RowE} (h : EntE w B es) (hw : Ext w w') : EntE w' B es := ⟨fun e he => (h.1 e he).ext hw, h.2⟩
set_option maxRecDepth 100000 in
theorem EntE.base {w : World} {B B' : Nat} {es : List RowE} (h : EntE w B es) (hb : B' ≤ B) : EntE w B' es := ⟨fun e he => (h.1 e he).base hb, h.2⟩
set_option maxRecDepth 100000 in
theorem EntE.only {w w' : World} {B g : Nat} {es : List RowE} (h : EntE w B es) (hw : Only g w w') (hg : ∀ e ∈ es, (rowV e).ownBlock ≠ some g) : EntE w' B es :=
  ⟨fun e he => (h.1 e he).keepRow hw (.inr (hg e he)), h.2⟩
set_option maxRecDepth 100000 in
theorem EntE.grown {w w' : World} {B : Nat} {es : List RowE} {row : Option Nat} (h : EntE w B es) (hw : w.grownBy w' row) (hg : ∀ e ∈ es, (rowV e).ownBlock = none ∨ (rowV e).ownBlock ≠ row) : EntE w' B es :=
  ⟨fun e he => (h.1 e he).keepRow hw (hg e he), h.2⟩
set_option maxRecDepth 100000 in
theorem dis_symm : ∀ {x y : RowE}, (∀ k, (rowV x).ownBlock = some k → (rowV y).ownBlock ≠ some k) → ∀ k, (rowV y).ownBlock = some k → (rowV x).ownBlock ≠ some k := fun h k hk he => h k he hk
set_option maxRecDepth 100000 in
theorem EntE.perm {w : World} {B : Nat} {es es' : List RowE} (h : EntE w B es) (hp : es'.Perm es) : EntE w B es' :=
  ⟨fun e he => h.1 e (hp.mem_iff.1 he), (hp.symm.pairwise_iff dis_symm).1 h.2⟩
set_option maxRecDepth 100000 in
theorem EntE.sub {w : World} {B : Nat} {es es' : List RowE} (h : EntE w B es) (hs : es'.Sublist es) : EntE w B es' :=
  ⟨fun e he => h.1 e (hs.subset he), h.2.sublist hs⟩
set_option maxRecDepth 100000 in
theorem EntE.lt {w : World} {B : Nat} {es : List RowE} (h : EntE w B es) : ∀ e ∈ es, ∀ k, (rowV e).ownBlock = some k → B ≤ k ∧ k < w.heap.size := fun e he k hk => World.ownsRow.lt (h.1 e he) k hk
set_option maxRecDepth 100000 in
theorem EntE.rd {w : World} {B : Nat} {es : List RowE} (h : EntE w B es) {e : RowE} (he : e ∈ es) : RdI w e.a e.xs ∧ e.n = e.xs.length := by
  obtain ⟨a, c, hv, _, _, hR, _⟩ := (h.1 e he).val
  unfold rowV at hv
  injection hv with h1 h2 h3
  rw [h1]
  exact ⟨hR, h2⟩
set_option maxRecDepth 100000 in
theorem EntE.add {w : World} {B : Nat} {es : List RowE} {e : RowE} (h : EntE w B es) (he : OwnI w B (rowV e) e.xs) (hf : ∀ e' ∈ es, ∀ k, (rowV e').ownBlock = some k → (rowV e).ownBlock ≠ some k) : EntE w B (es ++ [e]) := by
  refine ⟨fun x hx => ?_, ?_⟩
  · rcases List.mem_append.1 hx with hx | hx
    · exact h.1 x hx
    · simp at hx; subst hx; exact he
  · rw [List.pairwise_append]
    refine ⟨h.2, by simp, fun x hx y hy => ?_⟩
    simp at hy; subst hy
    exact hf x hx
set_option maxRecDepth 100000 in
theorem RowsE.ext {w w' : World} {B : Nat} {v : Value} {es : List RowE} (h : RowsE w B v es) (hw : Ext w w') : RowsE w' B v es := ownsRow_ext h hw
set_option maxRecDepth 100000 in
theorem RowsE.base {w : World} {B B' : Nat} {v : Value} {es : List RowE} (h : RowsE w B v es) (hb : B' ≤ B) : RowsE w B' v es := ownsRow_base h hb
set_option maxRecDepth 100000 in
theorem RowsE.nil (w : World) (B : Nat) : RowsE w B (.slice none 0 0) [] := World.ownsRow_nil _ _ _ _
set_option maxRecDepth 100000 in
theorem RowsE.made0 (w : World) : RowsE (w.alloc (.cells #[] 28)) w.heap.size (.slice (some ⟨w.heap.size, 0, none⟩) 0 0) [] :=
  ⟨rfl, .inr ⟨w.heap.size, 0, #[], rfl, Nat.le_refl _, heap_alloc_new _ _, Nat.le_refl _, by simp, rfl, rfl⟩⟩
set_option maxRecDepth 100000 in
/-- A row is never the outer list. -/
theorem rows_ne {w : World} {B B' : Nat} {v : Value} {es fs : List RowE} (h : RowsE w B v es) (hf : EntE w B' fs) : ∀ e ∈ fs, (rowV e).ownBlock = none ∨ (rowV e).ownBlock ≠ v.ownBlock := fun e he => own_ne' (hf.1 e he) h
set_option maxRecDepth 100000 in
theorem RowsE.own {w : World} {B : Nat} {v : Value} {es : List RowE} (h : RowsE w B v es) (he : EntE w B es) : OwnSS w B v (es.map RowE.xs) := by
  refine ⟨es.map rowV, by rw [List.length_map]; exact h, by simp, fun j xs hx => ?_, fun i j u u' k hne hu hu' hk => ?_⟩
  · rw [List.getElem?_map, Option.map_eq_some_iff] at hx
    obtain ⟨e, hx, rfl⟩ := hx
    exact ⟨rowV e, by rw [List.getElem?_map, hx]; rfl, he.1 e (List.mem_of_getElem? hx)⟩
  · rw [List.getElem?_map, Option.map_eq_some_iff] at hu hu'
    obtain ⟨e, h1, rfl⟩ := hu
    obtain ⟨e', h2, rfl⟩ := hu'
    have l1 := lt_of_at h1
    have l2 := lt_of_at h2
    rw [List.getElem?_eq_getElem l1] at h1
    rw [List.getElem?_eq_getElem l2] at h2
    injection h1 with h1
    injection h2 with h2
    rcases Nat.lt_or_ge i j with hlt | hge
    · have := List.pairwise_iff_getElem.1 he.2 i j l1 l2 hlt
      rw [h1, h2] at this
      exact this k hk
    · have := List.pairwise_iff_getElem.1 he.2 j i l2 l1 (by omega)
      rw [h1, h2] at this
      exact dis_symm this k hk
set_option maxRecDepth 100000 in
/-- The outer list as a value. -/
theorem RowsE.val {w : World} {B : Nat} {v : Value} {es : List RowE} (h : RowsE w B v es) : ∃ a c, v = .slice a es.length c ∧ es.length ≤ c ∧ c ≤ maxLen ∧ (es ≠ [] → ∃ g, a = some ⟨g, 0, none⟩ ∧ B ≤ g ∧ BlkF w g es.length (memF rowV es)) := by
  have h0 := h
  obtain ⟨_, h2⟩ := h
  rcases h2 with ⟨rfl, h2⟩ | ⟨g, cap, cur, rfl, hg, hh, hc, hm, hs, ht⟩
  · have : es = [] := List.length_eq_zero_iff.1 h2
    subst this
    exact ⟨none, 0, rfl, Nat.le_refl _, by simp, fun h => absurd rfl h⟩
  · have hl : g < w.heap.size := (World.ownsRow.lt h0 g rfl).2
    refine ⟨some ⟨g, 0, none⟩, cap, rfl, hc, hm, fun _ => ⟨g, rfl, hg, hl, fun o => World.ownsRow.frozenAt h0 o, fun o ho => ?_⟩⟩
    rw [World.ownsRow.cellAt h0 o (by omega)]
    obtain ⟨e, he⟩ := at_of_lt ho
    rw [List.getElem?_map, he, memF_at he]; rfl
set_option maxRecDepth 100000 in
theorem RowsE.at_ {w : World} {B : Nat} {a : Option Addr} {n c : Nat} {es : List RowE} (h : RowsE w B (.slice a n c) es) {k : Nat} {e : RowE} (he : es[k]? = some e) : ∃ g, a = some ⟨g, 0, none⟩ ∧ w.cell? ⟨g, k, none⟩ = some (.slice e.a e.n e.c) := by
  obtain ⟨a', c', hv, _, _, ho⟩ := h.val
  injection hv with h1 h2 h3
  obtain ⟨g, hg, _, hb⟩ := ho (ne_of_at he)
  refine ⟨g, by rw [h1, hg], ?_⟩
  rw [hb.cell k (lt_of_at he), memF_at he]; rfl

/-- A part of a list of rows that is read. -/
def RdE (w : World) (a : Option Addr) (es : List RowE) : Prop := es ≠ [] → ∃ b off, a = some ⟨b, off, none⟩ ∧ ∀ (j : Nat) (e : RowE), es[j]? = some e → w.cell? ⟨b, off + j, none⟩ = some (rowV e)
set_option maxRecDepth 100000 in
theorem RdE.nil (w : World) (a : Option Addr) : RdE w a [] := fun h => absurd rfl h
set_option maxRecDepth 100000 in
theorem RdE.ext {w w' : World} {a : Option Addr} {es : List RowE} (h : RdE w a es) (hw : Ext w w') : RdE w' a es := fun hne => by
  obtain ⟨b, off, ha, hj⟩ := h hne
  exact ⟨b, off, ha, fun j e he => hw.keep (hj j e he)⟩
set_option maxRecDepth 100000 in
theorem RowsE.rdE {w : World} {B : Nat} {a : Option Addr} {n c : Nat} {es : List RowE} (h : RowsE w B (.slice a n c) es) : RdE w a es := fun hne => by
  obtain ⟨a', c', hv, _, _, ho⟩ := h.val
  injection hv with h1 h2 h3
  obtain ⟨g, hg, _, hb⟩ := ho hne
  refine ⟨g, 0, by rw [h1, hg], fun j e he => ?_⟩
  rw [Nat.zero_add, hb.cell j (lt_of_at he), memF_at he]
set_option maxRecDepth 100000 in
theorem RdE.take {w : World} {a : Option Addr} {es : List RowE} (h : RdE w a es) (k : Nat) : RdE w a (es.take k) := fun hne => by
  obtain ⟨b, off, ha, hj⟩ := h (fun e => hne (by rw [e]; simp))
  refine ⟨b, off, ha, fun j e he => ?_⟩
  rw [List.getElem?_take] at he
  split at he
  · exact hj j e he
  · cases he
set_option maxRecDepth 100000 in
theorem RdE.drop {w : World} {b off n : Nat} {es : List RowE} (h : RdE w (some ⟨b, off, none⟩) es) (k c : Nat) (hc : es.length ≤ c) (hn : n = off + k) : RdE w (if c = k then some ⟨b, off, none⟩ else some ⟨b, n, none⟩) (es.drop k) := fun hne => by
  have hk : k < es.length := by
    rcases Nat.lt_or_ge k es.length with h | h
    · exact h
    · exact absurd (List.drop_eq_nil_of_le h) hne
  obtain ⟨b', off', e, hc'⟩ := h (fun e => by rw [e] at hk; simp at hk)
  injection e with e
  injection e with e1 e2
  subst e1 e2
  rw [if_neg (by omega)]
  subst hn
  refine ⟨b, off + k, rfl, fun j x hx => ?_⟩
  rw [List.getElem?_drop] at hx
  rw [Nat.add_assoc]
  exact hc' (k + j) x hx

set_option maxRecDepth 100000 in
theorem wpList_appE {ops : Array Oper} {rest : List Oper} {o : Oper} {a : Act} {Q : Exit → Act → World → Prop} (B : Nat) (w3 : World) (hgd : o.guard = none) (s x : Operand)
    (ho : o.op = .call { callee := .builtin .append, args := #[s, x], argTypes := #[50, 50] }) (v : Value) (es ys : List RowE) (hs : a.eval s = v) (hown : RowsE w3 B v es) (hB : B ≤ w3.heap.size)
    (ax : Option Addr) (n c : Nat) (hn : n = ys.length) (hx : a.eval x = .slice ax n c) (hR : RdE w3 ax ys) (hlen : es.length + ys.length ≤ 2000000)
    (h : ∀ v' w', RowsE w' B v' (es ++ ys) → w3.grownBy w' v.ownBlock → Fresh w3 v v' → wpList Tryz.prog ops Q rest (a.put o.dst v') w') : wpList Tryz.prog ops Q (o :: rest) a w3 := by
  obtain ⟨i0, hi, hz0, hz1, hz2⟩ := info_parts info_row
  subst hn
  obtain ⟨v', w', hr, h1, h2, h3⟩ := run_append_any (P := Tryz.prog) w3 B 50 o.type 28 i0 (.slice none 0 0) 1 24 Tryz.underlying50 hi hz0 hz1 hz2 rfl (by decide) v es.length _ hown ax ys.length c (ys.map rowV) (by simp)
    (fun hne => by
      obtain ⟨b, off, rfl, hc⟩ := hR (fun e => hne (by rw [e]; rfl))
      refine ⟨_, rfl, fun j u hj => ?_⟩
      rw [List.getElem?_map, Option.map_eq_some_iff] at hj
      obtain ⟨y, hy, rfl⟩ := hj
      have := hc j y hy
      by_cases hj0 : j = 0
      · subst hj0
        simpa [Addr.add] using this
      · simpa [Addr.add, hj0] using this)
    (fun u hu => by
      obtain ⟨y, _, rfl⟩ := List.mem_map.1 hu
      rfl) (by unfold maxLen; omega) (by omega) hB
  refine wpList_plain hgd fun K hK => ?_
  unfold Oper.wp execOp
  simp only [ho, resolve, invoke, builtin, Sem.run_bind, Sem.run_pure, Result.andThen_ok, List.map_toArray, List.map_cons, List.map_nil, hs, hx, hr]
  refine hK _ _ (h v' w' ?_ h2 h3)
  unfold RowsE
  rw [List.map_append, List.length_append]
  exact h1
set_option maxRecDepth 100000 in
/-- A freshly laid box with one row. -/
theorem RdE.box (w : World) (e : RowE) : RdE (w.alloc (.cells #[rowV e] 28)) (some ⟨w.heap.size, 0, none⟩) [e] := fun _ => by
  refine ⟨_, 0, rfl, fun j x hx => ?_⟩
  have : j = 0 := by
    have h2 := lt_of_at hx
    rw [List.length_singleton] at h2; omega
  subst this
  simp at hx
  subst hx
  exact new0 w (rowV e) [] 28
set_option maxRecDepth 100000 in
/-- A pair that has just been laid. -/
theorem OwnI.lit2 (w : World) (x y : Int) : OwnI (w.alloc (.cells #[.int .i64 x, .int .i64 y] 3)) w.heap.size (.slice (some ⟨w.heap.size, 0, none⟩) 2 2) [x, y] :=
  ⟨rfl, .inr ⟨w.heap.size, 2, #[.int .i64 x, .int .i64 y], rfl, Nat.le_refl _, heap_alloc_new _ _, Nat.le_refl _, by simp [maxLen], rfl, rfl⟩⟩
set_option maxRecDepth 100000 in
theorem RdI.two {w : World} {a : Option Addr} {x y : Int} (h : RdI w a [x, y]) : ∃ b off, a = some ⟨b, off, none⟩ ∧ w.cell? ⟨b, off, none⟩ = some (.int .i64 x) ∧ w.cell? ⟨b, off + 1, none⟩ = some (.int .i64 y) := by
  obtain ⟨b, off, ha, hc⟩ := h (by simp)
  exact ⟨b, off, ha, by simpa using hc 0 x rfl, hc 1 y rfl⟩
/-- A list of rows of the call's own, of which each one is known. -/
def LstE (w : World) (B : Nat) (v : Value) (es : List RowE) : Prop := RowsE w B v es ∧ EntE w B es
set_option maxRecDepth 100000 in
theorem LstE.ext {w w' : World} {B : Nat} {v : Value} {es : List RowE} (h : LstE w B v es) (hw : Ext w w') : LstE w' B v es := ⟨h.1.ext hw, h.2.ext hw⟩
set_option maxRecDepth 100000 in
theorem LstE.base {w : World} {B B' : Nat} {v : Value} {es : List RowE} (h : LstE w B v es) (hb : B' ≤ B) : LstE w B' v es := ⟨h.1.base hb, h.2.base hb⟩
set_option maxRecDepth 100000 in
theorem LstE.made0 (w : World) : LstE (w.alloc (.cells #[] 28)) w.heap.size (.slice (some ⟨w.heap.size, 0, none⟩) 0 0) [] := ⟨RowsE.made0 w, EntE.nil _ _⟩
set_option maxRecDepth 100000 in
theorem LstE.nil (w : World) (B : Nat) : LstE w B (.slice none 0 0) [] := ⟨RowsE.nil _ _, EntE.nil _ _⟩
set_option maxRecDepth 100000 in
/-- One new row appended. -/
theorem wpList_pushE {ops : Array Oper} {rest : List Oper} {o : Oper} {a : Act} {Q : Exit → Act → World → Prop} (W0 w0 w3 : World) (hgd : o.guard = none) (s x : Operand)
    (ho : o.op = .call { callee := .builtin .append, args := #[s, x], argTypes := #[50, 50] }) (v : Value) (es : List RowE) (e : RowE) (hs : a.eval s = v)
    (hown : LstE w0 W0.heap.size v es) (hW0 : Ext W0 w0) (hw : Ext w0 w3) (hu : OwnI w3 w0.heap.size (rowV e) e.xs)
    (gx : Nat) (hgx : gx = w3.heap.size) (hx : a.eval x = .slice (some ⟨gx, 0, none⟩) 1 1) (hlen : es.length ≤ 1000000)
    (h : ∀ v' w', LstE w' W0.heap.size v' (es ++ [e]) → Ext W0 w' → wpList Tryz.prog ops Q rest (a.put o.dst v') w') : wpList Tryz.prog ops Q (o :: rest) a (w3.alloc (.cells #[rowV e] 28)) := by
  subst hgx
  have hE := hw.alloc (.cells #[rowV e] 28)
  have h1 := hown.1.ext hE
  have h2 := hown.2.ext hE
  refine wpList_appE W0.heap.size _ hgd s x ho v es [e] hs h1 (hW0.trans hE).size _ _ _ (by simp) hx (RdE.box w3 e) (by simp; omega) ?_
  intro v' w' h3 h4 _
  have hu' := hu.ext (Ext.new w3 (.cells #[rowV e] 28))
  refine h v' w' ⟨h3, (h2.grown h4 (rows_ne h1 h2)).add ((hu'.keepRow h4 (own_ne' hu' h1)).base hW0.size) (fun e' he k hk hk2 => ?_)⟩ ((hW0.trans hE).grown h4 (ownsRow_block h1))
  have a1 := (hown.2.lt e' he k hk).2
  have a2 := (World.ownsRow.lt hu k hk2).1
  omega
set_option maxRecDepth 100000 in
/-- The outer list: nothing, or a block. -/
theorem RowsE.two {w : World} {B : Nat} {v : Value} {es : List RowE} (h : RowsE w B v es) : (v = .slice none 0 0 ∧ es = []) ∨ ∃ g c, v = .slice (some ⟨g, 0, none⟩) es.length c ∧ es.length ≤ c ∧ B ≤ g ∧ BlkF w g es.length (memF rowV es) := by
  have h0 := h
  obtain ⟨_, h2⟩ := h
  rcases h2 with ⟨rfl, h2⟩ | ⟨g, cap, cur, rfl, hg, hh, hc, hm, hs, ht⟩
  · exact .inl ⟨rfl, List.length_eq_zero_iff.1 h2⟩
  · have hl : g < w.heap.size := (World.ownsRow.lt h0 g rfl).2
    refine .inr ⟨g, cap, rfl, hc, hg, hl, fun o => World.ownsRow.frozenAt h0 o, fun o ho => ?_⟩
    rw [World.ownsRow.cellAt h0 o (by omega)]
    obtain ⟨e, he⟩ := at_of_lt ho
    rw [List.getElem?_map, he, memF_at he]; rfl
set_option maxRecDepth 100000 in
/-- One row appended, wherever it comes from. -/
theorem wpList_oneE {ops : Array Oper} {rest : List Oper} {o : Oper} {a : Act} {Q : Exit → Act → World → Prop} (B : Nat) (w3 : World) (hgd : o.guard = none) (s x : Operand)
    (ho : o.op = .call { callee := .builtin .append, args := #[s, x], argTypes := #[50, 50] }) (v : Value) (es : List RowE) (e : RowE) (hs : a.eval s = v) (hown : RowsE w3 B v es) (hB : B ≤ w3.heap.size)
    (gx : Nat) (hgx : gx = w3.heap.size) (hx : a.eval x = .slice (some ⟨gx, 0, none⟩) 1 1) (hlen : es.length ≤ 1000000)
    (h : ∀ v' w', RowsE w' B v' (es ++ [e]) → w3.grownBy w' v.ownBlock → wpList Tryz.prog ops Q rest (a.put o.dst v') w') : wpList Tryz.prog ops Q (o :: rest) a (w3.alloc (.cells #[rowV e] 28)) := by
  subst hgx
  refine wpList_appE B _ hgd s x ho v es [e] hs (hown.ext (Ext.new _ _)) (by simp; omega) _ _ _ (by simp) hx (RdE.box w3 e) (by simp; omega) ?_
  intro v' w' h3 h4 _
  exact h v' w' h3 ⟨h4.os, h4.tape, h4.output, Nat.le_trans (by simp) h4.size, fun k hk hne => (h4.block k (by simp; omega) hne).trans (Below.block (Ext.new w3 (.cells #[rowV e] 28)) k hk)⟩
set_option maxRecDepth 100000 in
/-- A new pair laid between the others. -/
theorem ent_ins {w1 w2 w3 wz : World} {B : Nat} (m : Nat) {es es1 es2 : List RowE} {x y : Int} {v1 v2 : Value} (hB : B ≤ wz.heap.size) (hent : EntE wz B es) (hE3 : Ext wz w3) (h1 : Ext wz w1)
    (hO1 : RowsE w1 wz.heap.size v1 es1) (hg2 : (w1.alloc (.cells #[.int .i64 x, .int .i64 y] 3)).grownBy w2 v1.ownBlock) (hO2 : RowsE w2 wz.heap.size v2 es2) (hg3 : w2.grownBy w3 v2.ownBlock) :
    EntE w3 B (es.take m ++ [⟨some ⟨w1.heap.size, 0, none⟩, 2, 2, [x, y]⟩] ++ es.drop m) := by
  have a0 := OwnI.lit2 w1 x y
  have a1 : OwnI w2 w1.heap.size (.slice (some ⟨w1.heap.size, 0, none⟩) 2 2) [x, y] := a0.keepRow hg2 (own_ne' a0 (hO1.ext (Ext.new _ _)))
  have a2 : OwnI w3 w1.heap.size (.slice (some ⟨w1.heap.size, 0, none⟩) 2 2) [x, y] := a1.keepRow hg3 (own_ne' a1 hO2)
  have b := (hent.ext hE3).add (e := ⟨some ⟨w1.heap.size, 0, none⟩, 2, 2, [x, y]⟩) (a2.base (Nat.le_trans hB h1.size)) (fun e' he k hk hk2 => by
    have c1 := (hent.lt e' he k hk).2
    have c2 := (World.ownsRow.lt a2 k hk2).1
    have c3 := h1.size
    omega)
  refine b.perm ?_
  have hp : (es.take m ++ (⟨some ⟨w1.heap.size, 0, none⟩, 2, 2, [x, y]⟩ : RowE) :: es.drop m).Perm ((⟨some ⟨w1.heap.size, 0, none⟩, 2, 2, [x, y]⟩ : RowE) :: (es.take m ++ es.drop m)) := List.perm_middle
  rw [List.take_append_drop] at hp
  rw [List.append_assoc, List.singleton_append]
  exact hp.trans (List.perm_append_singleton _ _).symm

def vtL (es : List (RowE × Int)) : List Value := es.flatMap (fun e => [rowV e.1, .int .i64 e.2])
set_option maxRecDepth 100000 in
theorem vtL_len : ∀ es : List (RowE × Int), (vtL es).length = es.length * 2
  | [] => rfl
  | e :: es => by
    have ih := vtL_len es
    unfold vtL at ih ⊢
    rw [List.flatMap_cons, List.length_append, ih, List.length_cons]
    simp; omega
set_option maxRecDepth 100000 in
theorem vtL_snoc (es : List (RowE × Int)) (e : RowE × Int) : vtL (es ++ [e]) = vtL es ++ [rowV e.1, .int .i64 e.2] := by simp [vtL]
set_option maxRecDepth 100000 in
theorem vtL_at : ∀ {es : List (RowE × Int)} {k : Nat} {e : RowE × Int}, es[k]? = some e → (vtL es)[k * 2]? = some (rowV e.1) ∧ (vtL es)[k * 2 + 1]? = some (.int .i64 e.2)
  | [], k, e, h => by simp at h
  | x :: es, 0, e, h => by
    simp at h
    subst h
    exact ⟨rfl, rfl⟩
  | x :: es, k + 1, e, h => by
    have ih := vtL_at (es := es) (k := k) (e := e) (by simpa using h)
    have e1 : vtL (x :: es) = rowV x.1 :: .int .i64 x.2 :: vtL es := rfl
    rw [e1, show (k + 1) * 2 = k * 2 + 1 + 1 by omega, List.getElem?_cons_succ, List.getElem?_cons_succ, List.getElem?_cons_succ, List.getElem?_cons_succ]
    exact ih
/-- v is a list of votes of the call's own. -/
def RowsV (w : World) (B : Nat) (v : Value) (es : List (RowE × Int)) : Prop := w.ownsRow B 30 2 v es.length (vtL es)
set_option maxRecDepth 100000 in
theorem RowsV.nil (w : World) (B : Nat) : RowsV w B (.slice none 0 0) [] := World.ownsRow_nil _ _ _ _
set_option maxRecDepth 100000 in
theorem RowsV.ext {w w' : World} {B : Nat} {v : Value} {es : List (RowE × Int)} (h : RowsV w B v es) (hw : Ext w w') : RowsV w' B v es := ownsRow_ext h hw
set_option maxRecDepth 100000 in
theorem RowsV.base {w : World} {B B' : Nat} {v : Value} {es : List (RowE × Int)} (h : RowsV w B v es) (hb : B' ≤ B) : RowsV w B' v es := ownsRow_base h hb
set_option maxRecDepth 100000 in
theorem ownV_ne {w : World} {B B' : Nat} {v u : Value} {xs : List Int} {es : List (RowE × Int)} (h1 : OwnI w B' u xs) (h : RowsV w B v es) : u.ownBlock = none ∨ u.ownBlock ≠ v.ownBlock := by
  cases hu : u.ownBlock with
  | none => exact .inl rfl
  | some k =>
    refine .inr (fun hv => ?_)
    obtain ⟨_, h⟩ := h
    obtain ⟨_, h1⟩ := h1
    rcases h1 with ⟨e1, _⟩ | ⟨g, cap, cur, e1, _, hh, _⟩
    · rw [e1] at hu; cases hu
    · rcases h with ⟨rfl, _⟩ | ⟨g', cap', cur', rfl, _, hh', _⟩
      · cases hv
      · rw [e1] at hu
        simp only [Value.ownBlock, Option.some.injEq] at hu hv
        subst hu
        subst hv
        rw [hh] at hh'
        injection hh' with hh'
        injection hh' with _ hh' _
        exact absurd hh' (by decide)
set_option maxRecDepth 100000 in
theorem rowsV_ne {w : World} {B B' : Nat} {v : Value} {es : List (RowE × Int)} {fs : List RowE} (h : RowsV w B v es) (hf : EntE w B' fs) : ∀ e ∈ fs, (rowV e).ownBlock = none ∨ (rowV e).ownBlock ≠ v.ownBlock := fun e he => ownV_ne (hf.1 e he) h
/-- Votes of the call's own, with rankings of the call's own. -/
def LstV (w : World) (B : Nat) (v : Value) (es : List (RowE × Int)) : Prop := RowsV w B v es ∧ EntE w B (es.map Prod.fst)
set_option maxRecDepth 100000 in
theorem LstV.nil (w : World) (B : Nat) : LstV w B (.slice none 0 0) [] := ⟨RowsV.nil _ _, EntE.nil _ _⟩
set_option maxRecDepth 100000 in
theorem LstV.ext {w w' : World} {B : Nat} {v : Value} {es : List (RowE × Int)} (h : LstV w B v es) (hw : Ext w w') : LstV w' B v es := ⟨h.1.ext hw, h.2.ext hw⟩
set_option maxRecDepth 100000 in
theorem LstV.base {w : World} {B B' : Nat} {v : Value} {es : List (RowE × Int)} (h : LstV w B v es) (hb : B' ≤ B) : LstV w B' v es := ⟨h.1.base hb, h.2.base hb⟩
set_option maxRecDepth 100000 in
theorem LstV.only {w w' : World} {B g : Nat} {v : Value} {es : List (RowE × Int)} (h : LstV w B v es) (hg : g < B) (hw : Only g w w') : LstV w' B v es := by
  refine ⟨World.ownsRow.kept h.1 hw ?_, h.2.only hw (fun e he hk => ?_)⟩
  · cases hv : v.ownBlock with
    | none => exact .inl rfl
    | some k =>
      refine .inr (fun e => ?_)
      injection e with e
      have := (World.ownsRow.lt h.1 k hv).1
      omega
  · have := (h.2.lt e he g hk).1
    omega
set_option maxRecDepth 100000 in
theorem LstV.push {wr w1 w2 wa w3 : World} {H : Nat} {v v' : Value} {es : List (RowE × Int)} {u : RowE} {k : Int} (h : LstV wr H v es) (hH : H ≤ wr.heap.size) (h1 : Ext wr w1) (hu : OwnI w2 w1.heap.size (rowV u) u.xs) (h2 : Ext w2 wa) (hE : Ext wr wa)
    (h3 : RowsV w3 H v' (es ++ [(u, k)])) (hg : wa.grownBy w3 v.ownBlock) : LstV w3 H v' (es ++ [(u, k)]) := by
  refine ⟨h3, ?_⟩
  have hv := h.1.ext hE
  have he := h.2.ext hE
  have hua := hu.ext h2
  rw [List.map_append]
  refine (he.grown hg (rowsV_ne hv he)).add ((hua.keepRow hg (ownV_ne hua hv)).base (Nat.le_trans hH h1.size)) (fun e' he' b hb hb2 => ?_)
  have c1 := (h.2.lt e' he' b hb).2
  have c2 := (World.ownsRow.lt hu b hb2).1
  have c3 := h1.size
  omega
set_option maxRecDepth 100000 in
theorem LstV.add {wa w3 : World} {H : Nat} {v v' : Value} {es : List (RowE × Int)} {u : RowE} {k : Int} (h : LstV wa H v es) (hu : OwnI wa H (rowV u) u.xs) (hfar : ∀ e ∈ es.map Prod.fst, ∀ b, (rowV e).ownBlock = some b → (rowV u).ownBlock ≠ some b)
    (h3 : RowsV w3 H v' (es ++ [(u, k)])) (hg : wa.grownBy w3 v.ownBlock) : LstV w3 H v' (es ++ [(u, k)]) := by
  refine ⟨h3, ?_⟩
  rw [List.map_append]
  exact (h.2.grown hg (rowsV_ne h.1 h.2)).add (hu.keepRow hg (ownV_ne hu h.1)) hfar
set_option maxRecDepth 100000 in
/-- What the votes are, as a value. -/
theorem RowsV.val {w : World} {B : Nat} {v : Value} {es : List (RowE × Int)} (h : RowsV w B v es) : (v = .slice none 0 0 ∧ es = []) ∨ ∃ g c, v = .slice (some ⟨g, 0, none⟩) es.length c ∧ es.length ≤ c ∧ B ≤ g ∧ BlkF w g (es.length * 2) (fun o => (vtL es).getD o undef) := by
  have h0 := h
  obtain ⟨_, h2⟩ := h
  rcases h2 with ⟨rfl, h2⟩ | ⟨g, cap, cur, rfl, hg, hh, hc, hm, hs, ht⟩
  · exact .inl ⟨rfl, List.length_eq_zero_iff.1 h2⟩
  · have hl : g < w.heap.size := (World.ownsRow.lt h0 g rfl).2
    refine .inr ⟨g, cap, rfl, hc, hg, hl, fun o => World.ownsRow.frozenAt h0 o, fun o ho => ?_⟩
    rw [World.ownsRow.cellAt h0 o (by omega)]
    obtain ⟨x, hx⟩ := at_of_lt (xs := vtL es) (k := o) (by rw [vtL_len]; exact ho)
    rw [hx]; simp [List.getD, hx]
def vtsOf (es : List (RowE × Int)) : List Vt := es.map (fun e => (e.1.xs, e.2))
set_option maxRecDepth 100000 in
theorem RowsV.rd {w : World} {B B' : Nat} {a : Option Addr} {n c : Nat} {es : List (RowE × Int)} (h : RowsV w B (.slice a n c) es) (hf : EntE w B' (es.map Prod.fst)) : RdV w a (vtsOf es) := fun hne => by
  have hne' : es ≠ [] := fun e => hne (by rw [e]; rfl)
  rcases h.val with ⟨_, he⟩ | ⟨g, c', hv, hc, hg, hB⟩
  · exact absurd he hne'
  · injection hv with h1 h2 h3
    subst h1
    refine ⟨g, 0, rfl, fun j x hx => ?_⟩
    unfold vtsOf at hx
    rw [List.getElem?_map, Option.map_eq_some_iff] at hx
    obtain ⟨e, he, rfl⟩ := hx
    have hl := lt_of_at he
    obtain ⟨c0, c1⟩ := vtL_at he
    have hO := hf.1 e.1 (List.mem_map_of_mem (List.mem_of_getElem? he))
    obtain ⟨a2, c2, hv2, hc2, _, hR2, _⟩ := hO.val
    unfold rowV at hv2
    injection hv2 with e1 e2 e3
    refine ⟨e.1.a, e.1.c, ?_, ?_, by rw [e3]; exact hc2, by rw [e1]; exact hR2⟩
    · rw [Nat.zero_add, hB.cell _ (by omega), ← e2]
      simp [List.getD, c0, rowV]
    · rw [Nat.zero_add, hB.cell _ (by omega)]
      simp [List.getD, c1]
set_option maxRecDepth 100000 in
theorem run_appV {w : World} (B : Nat) (ty : TypeId) (v : Value) (es : List (RowE × Int)) (e : RowE × Int) (gx : Nat) (hown : RowsV w B v es) (hB : B ≤ w.heap.size) (hc0 : w.cell? ⟨gx, 0, none⟩ = some (rowV e.1)) (hc1 : w.cell? ⟨gx, 1, none⟩ = some (.int .i64 e.2)) (hlen : es.length ≤ 100000) :
    ∃ v' w', (Builtin.append_ #[24, 24] ty #[v, .slice (some ⟨gx, 0, none⟩) 1 1]).run Tryz.prog w = .ok v' w' ∧ RowsV w' B v' (es ++ [e]) ∧ w.grownBy w' v.ownBlock ∧ Fresh w v v' := by
  obtain ⟨i0, hi, hz0, hz1, hz2⟩ := info_parts info_v
  obtain ⟨v', w', hr, h1, h2, h3⟩ := run_append_any (P := Tryz.prog) w B 24 ty 30 i0 (.agg #[.slice none 0 0, .int .i64 0]) 2 32 Tryz.underlying24 hi hz0 hz1 hz2 rfl (by decide) v es.length _ hown (some ⟨gx, 0, none⟩) 1 1 [rowV e.1, .int .i64 e.2] rfl
    (fun _ => ⟨_, rfl, fun j u hj => by
      match j, hj with
      | 0, hj => simp at hj; subst hj; simpa [Addr.add] using hc0
      | 1, hj => simp at hj; subst hj; simpa [Addr.add] using hc1⟩)
    (fun u hu => by
      simp at hu
      rcases hu with rfl | rfl <;> rfl) (by unfold maxLen; omega) (by omega) hB
  refine ⟨v', w', hr, ?_, h2, h3⟩
  unfold RowsV
  rw [vtL_snoc, List.length_append]
  exact h1
set_option maxRecDepth 100000 in
theorem oper_appV {o : Oper} {a : Act} {K : World → Act → Prop} (B : Nat) (w3 : World) (s x : Operand)
    (ho : o.op = .call { callee := .builtin .append, args := #[s, x], argTypes := #[24, 24] }) (v : Value) (es : List (RowE × Int)) (e : RowE × Int) (gx : Nat) (hs : a.eval s = v) (hown : RowsV w3 B v es) (hB : B ≤ w3.heap.size)
    (hx : a.eval x = .slice (some ⟨gx, 0, none⟩) 1 1) (hc0 : w3.cell? ⟨gx, 0, none⟩ = some (rowV e.1)) (hc1 : w3.cell? ⟨gx, 1, none⟩ = some (.int .i64 e.2)) (hlen : es.length ≤ 100000)
    (h : ∀ v' w', RowsV w' B v' (es ++ [e]) → w3.grownBy w' v.ownBlock → Fresh w3 v v' → K w' (a.put o.dst v')) : o.wp Tryz.prog a w3 (fun a' w' => K w' a') NoExit := by
  obtain ⟨v', w', hr, h1, h2, h3⟩ := run_appV B o.type v es e gx hown hB hc0 hc1 hlen
  unfold Oper.wp execOp
  simp only [ho, resolve, invoke, builtin, Sem.run_bind, Sem.run_pure, Result.andThen_ok, List.map_toArray, List.map_cons, List.map_nil, hs, hx, hr]
  exact h v' w' h1 h2 h3
set_option maxRecDepth 100000 in
theorem wpList_appV {ops : Array Oper} {rest : List Oper} {o : Oper} {a : Act} {Q : Exit → Act → World → Prop} (B : Nat) (w3 : World) (hgd : o.guard = none) (s x : Operand)
    (ho : o.op = .call { callee := .builtin .append, args := #[s, x], argTypes := #[24, 24] }) (v : Value) (es : List (RowE × Int)) (e : RowE × Int) (gx : Nat) (hs : a.eval s = v) (hown : RowsV w3 B v es) (hB : B ≤ w3.heap.size)
    (hx : a.eval x = .slice (some ⟨gx, 0, none⟩) 1 1) (hc0 : w3.cell? ⟨gx, 0, none⟩ = some (rowV e.1)) (hc1 : w3.cell? ⟨gx, 1, none⟩ = some (.int .i64 e.2)) (hlen : es.length ≤ 100000)
    (h : ∀ v' w', RowsV w' B v' (es ++ [e]) → w3.grownBy w' v.ownBlock → Fresh w3 v v' → wpList Tryz.prog ops Q rest (a.put o.dst v') w') : wpList Tryz.prog ops Q (o :: rest) a w3 := by
  obtain ⟨v', w', hr, h1, h2, h3⟩ := run_appV B o.type v es e gx hown hB hc0 hc1 hlen
  refine wpList_plain hgd fun K hK => ?_
  unfold Oper.wp execOp
  simp only [ho, resolve, invoke, builtin, Sem.run_bind, Sem.run_pure, Result.andThen_ok, List.map_toArray, List.map_cons, List.map_nil, hs, hx, hr]
  exact hK _ _ (h v' w' h1 h2 h3)
set_option maxRecDepth 100000 in
theorem oper_appVK {o : Oper} {a : Act} {K : World → Act → Prop} {R : World → World → Prop} (B : Nat) (w3 : World) (s x : Operand)
    (ho : o.op = .call { callee := .builtin .append, args := #[s, x], argTypes := #[24, 24] }) (v : Value) (es : List (RowE × Int)) (e : RowE × Int) (gx : Nat) (hs : a.eval s = v) (hown : RowsV w3 B v es) (hB : B ≤ w3.heap.size)
    (hx : a.eval x = .slice (some ⟨gx, 0, none⟩) 1 1) (hc0 : w3.cell? ⟨gx, 0, none⟩ = some (rowV e.1)) (hc1 : w3.cell? ⟨gx, 1, none⟩ = some (.int .i64 e.2)) (hlen : es.length ≤ 100000)
    (h : ∀ v' w', RowsV w' B v' (es ++ [e]) → w3.grownBy w' v.ownBlock → Fresh w3 v v' → R w3 w' ∧ K w' (a.put o.dst v')) : o.wp Tryz.prog a w3 (fun a' w' => R w3 w' ∧ K w' a') NoExit := by
  obtain ⟨v', w', hr, h1, h2, h3⟩ := run_appV B o.type v es e gx hown hB hc0 hc1 hlen
  unfold Oper.wp execOp
  simp only [ho, resolve, invoke, builtin, Sem.run_bind, Sem.run_pure, Result.andThen_ok, List.map_toArray, List.map_cons, List.map_nil, hs, hx, hr]
  exact h v' w' h1 h2 h3

end Go.Proofs.YtfmeklgdaabooaaGreatDoor
