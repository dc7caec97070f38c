/- Memory: blocks that may be written, lists of the call's own, what has turned and what has not. The range tests of both packages. Which approvals are valid: both packages' tests answer as one plain function. The library's searches over integers. The library's searches over approvals, with a function value that only adds memory. The program's own test of approvals. How many bits a small number has: the library's function at each of 64 numbers. Counting the members of a set. SeatsFor of both packages. -/
import Derived.Test.YthiojkpoeejkaaaRows
import Derived.Test.YthiojkpoeejkaaaCp0
namespace Go.Proofs.Ythiojkpoeejkaaa
open Go.RowKit

/-- A block of n cells that may be written. -/
structure BlkF (w : World) (g n : Nat) (f : Nat → Value) : Prop where
  lt : g < w.heap.size
  fr : ∀ o, w.frozen? ⟨g, o, none⟩ = false
  cell : ∀ o, o < n → w.cell? ⟨g, o, none⟩ = some (f o)

set_option maxRecDepth 100000 in
theorem BlkF.ext {w w' : World} {g n : Nat} {f : Nat → Value} (h : BlkF w g n f) (hw : Ext w w') : BlkF w' g n f :=
  ⟨Nat.lt_of_lt_of_le h.lt hw.size, fun o => (hw.frozen (p := ⟨g, o, none⟩) h.lt).trans (h.fr o), fun o ho => hw.keep (h.cell o ho)⟩

set_option maxRecDepth 100000 in
theorem BlkF.new (w : World) (cs : Array Value) (t : TypeId) : BlkF (w.alloc (.cells cs t)) w.heap.size cs.size (fun o => cs.getD o undef) :=
  ⟨by simp, fun o => World.frozen?_alloc_at _ _ _ _ rfl, fun o ho => by rw [World.cell?_alloc_at _ _ _ _ rfl]; simp [ho]⟩

set_option maxRecDepth 100000 in
theorem BlkF.set {w : World} {g n : Nat} {f : Nat → Value} (h : BlkF w g n f) (i : Nat) (hi : i < n) (v : Value) : BlkF (w.setCell ⟨g, i, none⟩ v) g n (fun o => if o = i then v else f o) := by
  refine ⟨by simpa [World.setCell] using h.lt, fun o => (World.frozen?_setCell _ _ _ _).trans (h.fr o), fun o ho => ?_⟩
  by_cases e : o = i
  · subst e; rw [World.cell?_setCell_same _ _ _ (h.cell o ho)]; simp
  · rw [World.cell?_setCell_other _ _ _ _ (by simp only [ne_eq, Addr.mk.injEq, not_and]; omega)]; simp [e, h.cell o ho]

set_option maxRecDepth 100000 in
theorem BlkF.far {w : World} {g n : Nat} {f : Nat → Value} (h : BlkF w g n f) {p : Addr} (hp : p.block ≠ g) (v : Value) : BlkF (w.setCell p v) g n f :=
  ⟨by simpa [World.setCell] using h.lt, fun o => (World.frozen?_setCell _ _ _ _).trans (h.fr o), fun o ho => (World.cell?_setCell_other _ _ _ _ (by rintro rfl; exact hp rfl)).trans (h.cell o ho)⟩

set_option maxRecDepth 100000 in
theorem run_make_rowN {P : Program} (t e : TypeId) (i : TypeInfo) (z : Value) (ht : P.underlying t = some (.slice e)) (hi : P.info? e = some i) (hz : i.zero = some z)
    (kl kc : IntKind) (n c : Nat) (hnc : n ≤ c) (hbytes : i.bytes * c ≤ 281474976710656) (h63 : c ≤ 9223372036854775807) (w : World) :
    (Instr.makeSlice t (.int kl (n : Int)) (.int kc (c : Int))).run P w = .ok (.slice (some ⟨w.heap.size, 0, none⟩) n c) (w.alloc (.cells (madeCells z.cells (c * i.size)) e)) := by
  have hb : (i.bytes : Int) * (c : Int) ≤ 281474976710656 := by
    have h : ((i.bytes * c : Nat) : Int) ≤ 281474976710656 := by omega
    rwa [Int.natCast_mul] at h
  have hr := run_make (P := P) w t e i z ht hi hz kl kc n c (by omega) (by omega) hb (by omega)
  simp only [Int.toNat_natCast] at hr
  exact hr

set_option maxRecDepth 100000 in
theorem take_ext {α : Type} {xs ys : List α} {k : Nat} {x y : α} (h : xs.take k = ys.take k) (hx : xs[k]? = some x) (hy : ys[k]? = some y) (e : x = y) : xs.take (k + 1) = ys.take (k + 1) := by
  rw [take_at hx, take_at hy, h, e]

set_option maxRecDepth 100000 in
theorem info_int : (Try.prog.info? 3).map (fun i => (i.zero, i.size, i.bytes)) = some (some (.int .i64 0), 1, 8) := by kernel_rfl

/-- v is a list of integers of the call's own, in a block from B on. -/
def OwnI (w : World) (B : Nat) (v : Value) (xs : List Int) : Prop := w.ownsRow B 3 1 v xs.length (xs.map (Value.int .i64))

set_option maxRecDepth 100000 in
theorem OwnI.nil (w : World) (B : Nat) : OwnI w B (.slice none 0 0) [] := World.ownsRow_nil _ _ _ _

set_option maxRecDepth 100000 in
theorem ownsRow_ext {w w' : World} {B : Nat} {e : TypeId} {size : Nat} {v : Value} {n : Nat} {xs : List Value} (h : w.ownsRow B e size v n xs) (hw : Ext w w') : w'.ownsRow B e size v n xs := by
  obtain ⟨h1, h2⟩ := h
  refine ⟨h1, ?_⟩
  rcases h2 with h2 | ⟨g, cap, cur, hv, hg, hh, r⟩
  · exact .inl h2
  · refine .inr ⟨g, cap, cur, hv, hg, ?_, r⟩
    have hlt : g < w.heap.size := by
      rcases Nat.lt_or_ge g w.heap.size with hlt | hge
      · exact hlt
      · rw [Array.getElem?_eq_none hge] at hh; cases hh
    rw [Below.block hw g hlt]; exact hh

set_option maxRecDepth 100000 in
theorem OwnI.ext {w w' : World} {B : Nat} {v : Value} {xs : List Int} (h : OwnI w B v xs) (hw : Ext w w') : OwnI w' B v xs := ownsRow_ext h hw

set_option maxRecDepth 100000 in
theorem ownsRow_base {w : World} {B B' : Nat} {e : TypeId} {size : Nat} {v : Value} {n : Nat} {xs : List Value} (h : w.ownsRow B e size v n xs) (hb : B' ≤ B) : w.ownsRow B' e size v n xs := by
  obtain ⟨h1, h2⟩ := h
  refine ⟨h1, ?_⟩
  rcases h2 with h2 | ⟨g, cap, cur, hv, hg, r⟩
  · exact .inl h2
  · exact .inr ⟨g, cap, cur, hv, Nat.le_trans hb hg, r⟩

set_option maxRecDepth 100000 in
theorem OwnI.made0 (w : World) : OwnI (w.alloc (.cells #[] 3)) w.heap.size (.slice (some ⟨w.heap.size, 0, none⟩) 0 0) [] :=
  ⟨rfl, .inr ⟨w.heap.size, 0, #[], rfl, Nat.le_refl _, heap_alloc_new _ _, Nat.le_refl _, by simp, rfl, rfl⟩⟩

set_option maxRecDepth 100000 in
theorem OwnI.base {w : World} {B B' : Nat} {v : Value} {xs : List Int} (h : OwnI w B v xs) (hb : B' ≤ B) : OwnI w B' v xs := ownsRow_base h hb

set_option maxRecDepth 100000 in
theorem ownsRow_block {w : World} {B : Nat} {e : TypeId} {size : Nat} {v : Value} {n : Nat} {xs : List Value} (h : w.ownsRow B e size v n xs) : ∀ k, v.ownBlock = some k → B ≤ k := fun k hk => (h.lt k hk).1

set_option maxRecDepth 100000 in
theorem Ext.grown {W w w' : World} {row : Option Nat} (h : Ext W w) (hg : w.grownBy w' row) (hr : ∀ k, row = some k → W.heap.size ≤ k) : Ext W w' := Below.grown h hg h.size hr

set_option maxRecDepth 100000 in
/-- What such a list is, as a value. -/
theorem OwnI.val {w : World} {B : Nat} {v : Value} {xs : List Int} (h : OwnI w B v xs) :
    ∃ a c, v = .slice a xs.length c ∧ xs.length ≤ c ∧ c ≤ maxLen ∧ RdI w a xs ∧ (xs ≠ [] → ∃ g, a = some ⟨g, 0, none⟩ ∧ B ≤ g ∧ BlkF w g xs.length (fun j => .int .i64 (xs.getD j 0))) := by
  obtain ⟨h1, h2⟩ := h
  rcases h2 with ⟨rfl, h2⟩ | ⟨g, cap, cur, rfl, hg, hh, hc, hm, hs, ht⟩
  · have : xs = [] := List.length_eq_zero_iff.1 h2
    subst this
    exact ⟨none, 0, rfl, Nat.le_refl _, by simp, RdI.nil _ _, fun h => absurd rfl h⟩
  · have hlt : g < w.heap.size := by
      rcases Nat.lt_or_ge g w.heap.size with hlt | hge
      · exact hlt
      · rw [Array.getElem?_eq_none hge] at hh; cases hh
    have hcell : ∀ (j : Nat) (x : Int), xs[j]? = some x → w.cell? ⟨g, j, none⟩ = some (.int .i64 x) := fun j x hx => by
      have hj := lt_of_at hx
      have h3 : (cur.toList.take (xs.length * 1))[j]? = some (.int .i64 x) := by rw [ht]; simp [hx]
      rw [List.getElem?_take, if_pos (by omega)] at h3
      simp only [World.cell?, hh]
      simpa using h3
    refine ⟨some ⟨g, 0, none⟩, cap, rfl, hc, hm, fun _ => ⟨g, 0, rfl, fun j x hx => by rw [Nat.zero_add]; exact hcell j x hx⟩, fun _ => ⟨g, rfl, hg, hlt, fun o => by simp [World.frozen?, hh], fun o ho => ?_⟩⟩
    obtain ⟨x, hx⟩ := at_of_lt ho
    rw [hcell o x hx]; simp [hx]

/-- v reads as the integers xs, in a block from B on. -/
def FrI (w : World) (B : Nat) (v : Value) (xs : List Int) : Prop := ∃ a c, v = .slice a xs.length c ∧ xs.length ≤ c ∧ RdI w a xs ∧ ∀ b off, a = some ⟨b, off, none⟩ → xs ≠ [] → B ≤ b ∧ b < w.heap.size

set_option maxRecDepth 100000 in
theorem OwnI.fr {w : World} {B : Nat} {v : Value} {xs : List Int} (h : OwnI w B v xs) : FrI w B v xs := by
  obtain ⟨a, c, hv, hc, _, hR, ho⟩ := h.val
  refine ⟨a, c, hv, hc, hR, fun b off ha hne => ?_⟩
  obtain ⟨g, hg, hB, hb⟩ := ho hne
  rw [hg] at ha
  injection ha with ha
  injection ha with ha
  subst ha
  exact ⟨hB, hb.lt⟩

set_option maxRecDepth 100000 in
theorem FrI.fr {w : World} {B : Nat} {v : Value} {xs : List Int} (h : FrI w B v xs) : FrI w B v xs := h

set_option maxRecDepth 100000 in
theorem FrI.ext {w w' : World} {B : Nat} {v : Value} {xs : List Int} (h : FrI w B v xs) (hw : Ext w w') : FrI w' B v xs := by
  obtain ⟨a, c, hv, hc, hR, hb⟩ := h
  exact ⟨a, c, hv, hc, hR.ext hw, fun b off ha hne => ⟨(hb b off ha hne).1, Nat.lt_of_lt_of_le (hb b off ha hne).2 hw.size⟩⟩

set_option maxRecDepth 100000 in
theorem FrI.base {w : World} {B B' : Nat} {v : Value} {xs : List Int} (h : FrI w B v xs) (hB : B' ≤ B) : FrI w B' v xs := by
  obtain ⟨a, c, hv, hc, hR, hb⟩ := h
  exact ⟨a, c, hv, hc, hR, fun b off ha hne => ⟨Nat.le_trans hB (hb b off ha hne).1, (hb b off ha hne).2⟩⟩

set_option maxRecDepth 100000 in
theorem FrI.nil (w : World) (B : Nat) (a : Option Addr) (c : Nat) : FrI w B (.slice a 0 c) [] := ⟨a, c, rfl, Nat.zero_le _, RdI.nil _ _, fun _ _ _ h => absurd rfl h⟩

set_option maxRecDepth 100000 in
theorem BlkF.frI {w : World} {g n B c : Nat} {f : Nat → Value} {xs : List Int} (hB : BlkF w g n f) (hn : xs.length = n) (hf : ∀ (j : Nat) (x : Int), xs[j]? = some x → f j = .int .i64 x) (hg : B ≤ g) (hc : n ≤ c) : FrI w B (.slice (some ⟨g, 0, none⟩) n c) xs := by
  subst hn
  refine ⟨some ⟨g, 0, none⟩, c, rfl, hc, fun _ => ⟨g, 0, rfl, fun j x hx => ?_⟩, fun b off ha _ => ?_⟩
  · rw [Nat.zero_add, hB.cell j (lt_of_at hx), hf j x hx]
  · injection ha with ha
    injection ha with ha
    subst ha
    exact ⟨hg, hB.lt⟩

set_option maxRecDepth 100000 in
theorem BlkF.congr {w : World} {g n : Nat} {f f' : Nat → Value} (h : BlkF w g n f) (hf : ∀ o, o < n → f o = f' o) : BlkF w g n f' := ⟨h.lt, h.fr, fun o ho => by rw [h.cell o ho, hf o ho]⟩

set_option maxRecDepth 100000 in
theorem made_int (n j : Nat) (hj : j < n) : (madeCells (Value.int .i64 0).cells n).getD j undef = .int .i64 0 := by
  have h := toList_madeCells_one (.int .i64 0) n
  have h2 : (madeCells #[Value.int .i64 0] n).toList[j]? = some (.int .i64 0) := by rw [h]; simp [hj]
  show (madeCells #[Value.int .i64 0] n).getD j undef = _
  rw [Array.getElem?_toList] at h2
  simp [h2]

set_option maxRecDepth 100000 in
theorem wpList_appI {ops : Array Oper} {rest : List Oper} {o : Oper} {a : Act} {Q : Exit → Act → World → Prop} (W0 w3 : World) (hgd : o.guard = none) (s x : Operand)
    (ho : o.op = .call { callee := .builtin .append, args := #[s, x], argTypes := #[29, 29] }) (v : Value) (xs : List Int) (y : Int) (hs : a.eval s = v) (hown : OwnI w3 W0.heap.size v xs) (hW : Ext W0 w3)
    (hx : a.eval x = .slice (some ⟨w3.heap.size, 0, none⟩) 1 1) (hlen : xs.length ≤ 2000000)
    (h : ∀ v' w', OwnI w' W0.heap.size v' (xs ++ [y]) → Ext W0 w' → wpList Try.prog ops Q rest (a.put o.dst v') w') : wpList Try.prog ops Q (o :: rest) a (w3.alloc (.cells #[.int .i64 y] 3)) := by
  obtain ⟨i0, hi, hz0, hz1, hz2⟩ := info_parts info_int
  have hW3 : Ext W0 (w3.alloc (.cells #[.int .i64 y] 3)) := hW.alloc _
  have hown3 := hown.ext (Ext.new w3 (.cells #[.int .i64 y] 3))
  refine wpList_append_own _ hgd s x 29 ho W0.heap.size 3 i0 (.int .i64 0) 1 8 Try.underlying29 hi hz0 hz1 hz2 rfl (by decide) v xs.length _ hs hown3 ⟨w3.heap.size, 0, none⟩ 1 1 [.int .i64 y] hx rfl ?_ ?_ ?_ ?_ hW3.size ?_
  · intro j u hj
    match j, hj with
    | 0, hj => simp at hj; subst hj; simp [Addr.add]
  · intro u hu; simp at hu; subst hu; rfl
  · unfold maxLen; omega
  · omega
  · intro v' w' h1 h2 _
    refine h v' w' ?_ (hW3.grown h2 (ownsRow_block hown3))
    unfold OwnI
    simpa using h1

set_option maxRecDepth 100000 in
theorem oper_no {P : Program} {o : Oper} {a : Act} {w : World} {K : World → Act → Prop} (h : o.wp P a w (fun a' w' => Exit.normal = .normal ∧ K w' a') (fun e a w => e = .normal ∧ K w a)) : o.wp P a w (fun a' w' => K w' a') NoExit := by
  unfold Oper.wp at *
  generalize (execOp a.eval o).run P w = r at *
  cases r with
  | ok n w' =>
    cases n <;> simp only [Oper.upon] at h ⊢
    case value u => exact h.2
    case skip => exact h.2
    case defer d => exact h.2
    case enter f args =>
      refine Calls.mono h fun e w'' he => ?_
      cases e with
      | returned u => exact he.2
      | panicked c => exact absurd he.1 (by simp)
      | outgrown => obtain ⟨_, _, h1, _⟩ := he; cases h1
    case row row args => exact Rows.mono h fun u w'' he => he.2
  | halt x w' => cases x <;> simp only [Oper.upon] at h ⊢ <;> first | exact h.elim | exact absurd h.1 (by simp)

set_option maxRecDepth 100000 in
/-- One integer appended inside a drawn region. -/
theorem oper_appI {o : Oper} {a : Act} {K : World → Act → Prop} (W0 w3 : World) (hgd : o.guard = none) (s x : Operand)
    (ho : o.op = .call { callee := .builtin .append, args := #[s, x], argTypes := #[29, 29] }) (v : Value) (xs : List Int) (y : Int) (gx : Nat) (hs : a.eval s = v) (hown : OwnI w3 W0.heap.size v xs) (hW : Ext W0 w3)
    (hx : a.eval x = .slice (some ⟨gx, 0, none⟩) 1 1) (hc : w3.cell? ⟨gx, 0, none⟩ = some (.int .i64 y)) (hlen : xs.length ≤ 2000000)
    (h : ∀ v' w', OwnI w' W0.heap.size v' (xs ++ [y]) → Ext W0 w' → K w' (a.put o.dst v')) : o.wp Try.prog a w3 (fun a' w' => K w' a') NoExit := by
  obtain ⟨i0, hi, hz0, hz1, hz2⟩ := info_parts info_int
  have h1 : wpList Try.prog #[] (fun e a w => e = .normal ∧ K w a) [o] a w3 := by
    refine wpList_append_own _ hgd s x 29 ho W0.heap.size 3 i0 (.int .i64 0) 1 8 Try.underlying29 hi hz0 hz1 hz2 rfl (by decide) v xs.length _ hs hown ⟨gx, 0, none⟩ 1 1 [.int .i64 y] hx rfl ?_ ?_ ?_ ?_ hW.size ?_
    · intro j u hj
      match j, hj with
      | 0, hj => simp at hj; subst hj; simpa [Addr.add] using hc
    · intro u hu; simp at hu; subst hu; rfl
    · unfold maxLen; omega
    · omega
    · intro v' w' h1 h2 _
      refine ⟨rfl, h v' w' ?_ (hW.grown h2 (ownsRow_block hown))⟩
      unfold OwnI
      simpa using h1
  unfold wpList at h1
  split at h1
  · rcases h1 with h1 | ⟨_, _, _, h1, _⟩
    · exact oper_no h1
    · cases h1
  · rename_i hw
    exact absurd (by simp [Region.wanted, hgd]) hw

/-- Only block g has turned (and memory is added). -/
def Only (g : Nat) (w w' : World) : Prop := w.grownBy w' (some g)

set_option maxRecDepth 100000 in
theorem Only.refl (g : Nat) (w : World) : Only g w w := ⟨rfl, rfl, rfl, Nat.le_refl _, fun _ _ _ => rfl⟩

set_option maxRecDepth 100000 in
theorem Only.trans {g : Nat} {a b c : World} (h : Only g a b) (k : Only g b c) : Only g a c :=
  ⟨k.os.trans h.os, k.tape.trans h.tape, k.output.trans h.output, Nat.le_trans h.size k.size, fun i hi hne => (k.block i (Nat.lt_of_lt_of_le hi h.size) hne).trans (h.block i hi hne)⟩

set_option maxRecDepth 100000 in
theorem Only.setCell {g : Nat} {a w : World} (h : Only g a w) (i : Nat) (v : Value) : Only g a (w.setCell ⟨g, i, none⟩ v) :=
  ⟨h.os, h.tape, h.output, by simpa [World.setCell] using h.size, fun k hk hne => (Below.heap_setCell w _ v k (by rintro rfl; exact hne rfl)).trans (h.block k hk hne)⟩

set_option maxRecDepth 100000 in
theorem Only.of_ext {g : Nat} {w w' : World} (h : Ext w w') : Only g w w' := ⟨h.os, h.tape, h.output, Below.size h, fun k hk _ => Below.block h k hk⟩

set_option maxRecDepth 100000 in
theorem Only.keep {g : Nat} {w w' : World} (h : Only g w w') {p : Addr} (hp : p.block ≠ g) {v : Value} (hc : w.cell? p = some v) : w'.cell? p = some v :=
  (World.cell?_of_block (w := w) (h.block p.block (World.block_lt_of_cell? w p hc) (fun e => hp (by injection e)))).trans hc

set_option maxRecDepth 100000 in
theorem Only.ext {g : Nat} {W w w' : World} (h : Ext W w) (hg : Only g w w') (hb : W.heap.size ≤ g) : Ext W w' := h.grown hg (fun k hk => by injection hk with hk; omega)

set_option maxRecDepth 100000 in
theorem Only.rdI {g : Nat} {w w' : World} (h : Only g w w') {a : Option Addr} {xs : List Int} (hr : RdI w a xs) (hne : ∀ b off, a = some ⟨b, off, none⟩ → b ≠ g) : RdI w' a xs := fun hx => by
  obtain ⟨b, off, rfl, hc⟩ := hr hx
  exact ⟨b, off, rfl, fun j x hj => h.keep (hne b off rfl) (hc j x hj)⟩

set_option maxRecDepth 100000 in
theorem Only.rdP {g : Nat} {w w' : World} (h : Only g w w') {a : Option Addr} {xs : List (Int × Int)} (hr : RdP w a xs) (hne : ∀ b off, a = some ⟨b, off, none⟩ → b ≠ g) : RdP w' a xs := fun hx => by
  obtain ⟨b, off, rfl, hc⟩ := hr hx
  exact ⟨b, off, rfl, fun j x hj => ⟨h.keep (hne b off rfl) (hc j x hj).1, h.keep (hne b off rfl) (hc j x hj).2⟩⟩

set_option maxRecDepth 100000 in
theorem Only.blk {g g' n : Nat} {f : Nat → Value} {w w' : World} (h : Only g w w') (hb : BlkF w g' n f) (hne : g' ≠ g) : BlkF w' g' n f :=
  ⟨Nat.lt_of_lt_of_le hb.lt h.size, fun o => (World.frozen?_of_block (w := w) (h.block g' hb.lt (fun e => hne (by injection e)))).trans (hb.fr o), fun o ho => h.keep (by exact hne) (hb.cell o ho)⟩

/-- Only blocks from lo on and below hi have turned (and memory is added). -/
structure Rng (lo hi : Nat) (w w' : World) : Prop where
  os : w'.os = w.os
  tape : w'.tape = w.tape
  output : w'.output = w.output
  size : w.heap.size ≤ w'.heap.size
  block : ∀ k, k < w.heap.size → ¬ (lo ≤ k ∧ k < hi) → w'.heap[k]? = w.heap[k]?

set_option maxRecDepth 100000 in
theorem Rng.of_ext {lo hi : Nat} {w w' : World} (h : Ext w w') : Rng lo hi w w' := ⟨h.os, h.tape, h.output, Below.size h, fun k hk _ => Below.block h k hk⟩

set_option maxRecDepth 100000 in
theorem Rng.of_only {lo hi g : Nat} {w w' : World} (h : Only g w w') (h1 : lo ≤ g) (h2 : g < hi) : Rng lo hi w w' :=
  ⟨h.os, h.tape, h.output, h.size, fun k hk hn => h.block k hk (fun e => by injection e with e; subst e; exact hn ⟨h1, h2⟩)⟩

set_option maxRecDepth 100000 in
theorem Rng.trans {lo hi : Nat} {a b c : World} (h : Rng lo hi a b) (k : Rng lo hi b c) : Rng lo hi a c :=
  ⟨k.os.trans h.os, k.tape.trans h.tape, k.output.trans h.output, Nat.le_trans h.size k.size, fun i hi hne => (k.block i (Nat.lt_of_lt_of_le hi h.size) hne).trans (h.block i hi hne)⟩

set_option maxRecDepth 100000 in
theorem Rng.ext {lo hi : Nat} {W w w' : World} (h : Ext W w) (hg : Rng lo hi w w') (hb : W.heap.size ≤ lo) : Ext W w' :=
  ⟨hg.os.trans h.os, hg.tape.trans h.tape, hg.output.trans h.output, Nat.le_trans h.size hg.size, fun k hk => (hg.block k (Nat.lt_of_lt_of_le hk h.size) (by omega)).trans (Below.block h k hk)⟩

set_option maxRecDepth 100000 in
theorem Rng.keep {lo hi : Nat} {w w' : World} (h : Rng lo hi w w') {p : Addr} (hp : p.block < lo ∨ hi ≤ p.block) {v : Value} (hc : w.cell? p = some v) : w'.cell? p = some v :=
  (World.cell?_of_block (w := w) (h.block p.block (World.block_lt_of_cell? w p hc) (by omega))).trans hc

/-- v reads as xs, in blocks below B. -/
def RdB (w : World) (B : Nat) (v : Value) (xs : List Int) : Prop := ∃ a c, v = .slice a xs.length c ∧ RdI w a xs ∧ ∀ b off, a = some ⟨b, off, none⟩ → xs ≠ [] → b < B

set_option maxRecDepth 100000 in
theorem FrI.rdB {w : World} {B : Nat} {v : Value} {xs : List Int} (h : FrI w B v xs) : RdB w w.heap.size v xs := by
  obtain ⟨a, c, hv, _, hR, hb⟩ := h
  exact ⟨a, c, hv, hR, fun b off ha hne => (hb b off ha hne).2⟩

set_option maxRecDepth 100000 in
theorem RdB.ext {w w' : World} {B : Nat} {v : Value} {xs : List Int} (h : RdB w B v xs) (hw : Ext w w') : RdB w' B v xs := by
  obtain ⟨a, c, hv, hR, hb⟩ := h
  exact ⟨a, c, hv, hR.ext hw, hb⟩

set_option maxRecDepth 100000 in
theorem RdB.only {w w' : World} {B g : Nat} {v : Value} {xs : List Int} (h : RdB w B v xs) (hg : B ≤ g) (hw : Only g w w') : RdB w' B v xs := by
  obtain ⟨a, c, hv, hR, hb⟩ := h
  by_cases hne : xs = []
  · subst hne; exact ⟨a, c, hv, RdI.nil _ _, hb⟩
  · exact ⟨a, c, hv, hw.rdI hR (fun b off ha => by have := hb b off ha hne; omega), hb⟩

set_option maxRecDepth 100000 in
theorem OwnI.only {w w' : World} {B g : Nat} {v : Value} {xs : List Int} (h : OwnI w B v xs) (hg : g < B) (hw : Only g w w') : OwnI w' B v xs := by
  obtain ⟨h1, h2⟩ := h
  refine ⟨h1, ?_⟩
  rcases h2 with h2 | ⟨g', cap, cur, hv, hg', hh, r⟩
  · exact .inl h2
  · refine .inr ⟨g', cap, cur, hv, hg', ?_, r⟩
    have hlt : g' < w.heap.size := by
      rcases Nat.lt_or_ge g' w.heap.size with hlt | hge
      · exact hlt
      · rw [Array.getElem?_eq_none hge] at hh; cases hh
    rw [hw.block g' hlt (fun e => by injection e; omega)]; exact hh

set_option maxRecDepth 100000 in
theorem RdB.rng {w w' : World} {B lo hi : Nat} {v : Value} {xs : List Int} (h : RdB w B v xs) (hg : B ≤ lo) (hw : Rng lo hi w w') : RdB w' B v xs := by
  obtain ⟨a, c, hv, hR, hb⟩ := h
  refine ⟨a, c, hv, fun hx => ?_, hb⟩
  obtain ⟨b, off, rfl, hc⟩ := hR hx
  exact ⟨b, off, rfl, fun j x hj => hw.keep (.inl (by have := hb b off rfl hx; show b < lo; omega)) (hc j x hj)⟩

set_option maxRecDepth 100000 in
theorem OwnI.rng {w w' : World} {B lo hi : Nat} {v : Value} {xs : List Int} (h : OwnI w B v xs) (hg : hi ≤ B) (hw : Rng lo hi w w') : OwnI w' B v xs := by
  obtain ⟨h1, h2⟩ := h
  refine ⟨h1, ?_⟩
  rcases h2 with h2 | ⟨g', cap, cur, hv, hg', hh, r⟩
  · exact .inl h2
  · refine .inr ⟨g', cap, cur, hv, hg', ?_, r⟩
    have hlt : g' < w.heap.size := by
      rcases Nat.lt_or_ge g' w.heap.size with hlt | hge
      · exact hlt
      · rw [Array.getElem?_eq_none hge] at hh; cases hh
    rw [hw.block g' hlt (by omega)]; exact hh

/-- v holds n marks from k0 on. -/
def Marks (w : World) (v : Value) (n : Nat) (k0 : Int) : Prop := ∃ a c, v = .slice a n c ∧ RdI w a ((List.range n).map fun j : Nat => k0 + (j : Int))

set_option maxRecDepth 100000 in
theorem Marks.ext {w w' : World} {v : Value} {n : Nat} {k0 : Int} (h : Marks w v n k0) (hw : Ext w w') : Marks w' v n k0 := by
  obtain ⟨a, c, hv, hR⟩ := h
  exact ⟨a, c, hv, hR.ext hw⟩

set_option maxRecDepth 100000 in
theorem in_spec (n lo hi : Int) (w : World) :
    Calls Try.prog 131 #[.int .i64 n, .int .i64 lo, .int .i64 hi] w fun e w' => e = .returned (.bool (inR n lo hi)) ∧ Ext w w' := by
  go_enter Try.func131, Try.ntmps131
  by_cases h1 : lo ≤ n <;> by_cases h2 : n ≤ hi
  all_goals
    go_wp2
    go_ret
    exact ⟨by simp [inR, h1, h2], Ext.refl _⟩

set_option maxRecDepth 100000 in
theorem in_impl (n lo hi : Int) (w : World) :
    Calls Try.prog 94 #[.int .i64 n, .int .i64 lo, .int .i64 hi] w fun e w' => e = .returned (.bool (inR n lo hi)) ∧ Ext w w' := by
  go_enter Try.func94, Try.ntmps94
  by_cases h1 : lo ≤ n <;> by_cases h2 : n ≤ hi
  all_goals
    go_wp2
    go_ret
    exact ⟨by simp [inR, h1, h2], Ext.refl _⟩

def balOk (sz : Int) (x : Int × Int) : Bool := inR x.1 0 (topOf sz) && inR x.2 1 1000
def appOk (sz : Int) (bs : List (Int × Int)) : Bool := inR sz 1 6 && (decide (bs.length ≤ 12) && bs.all (balOk sz))

/-- The place of the first element with a property, or -1. -/
def findI {α : Type} (p : α → Bool) (xs : List α) : Int := match xs.findIdx? p with | some i => (i : Int) | none => -1

set_option maxRecDepth 100000 in
theorem findI_none {α : Type} {p : α → Bool} {xs : List α} (h : xs.all (fun x => !p x) = true) : findI p xs = -1 := by
  have : xs.findIdx? p = none := by rw [List.findIdx?_eq_none_iff]; intro x hx; have := List.all_eq_true.1 h x hx; simpa using this
  simp [findI, this]

set_option maxRecDepth 100000 in
theorem findI_some {α : Type} {p : α → Bool} {xs : List α} {k : Nat} {x : α} (hx : xs[k]? = some x) (h : (xs.take k).all (fun x => !p x) = true) (hp : p x = true) : findI p xs = (k : Int) := by
  have : xs.findIdx? p = some k := by
    rw [List.findIdx?_eq_some_iff_getElem]
    have hk := lt_of_at hx
    refine ⟨hk, ?_, fun j hj => ?_⟩
    · rw [List.getElem?_eq_getElem hk] at hx; simp at hx; rw [hx]; exact hp
    · have h1 := List.all_eq_true.1 h xs[j] (by rw [List.mem_take_iff_getElem]; exact ⟨j, by omega, rfl⟩)
      simpa using h1
  simp [findI, this]

set_option maxRecDepth 100000 in
theorem findI_nonneg {α : Type} (p : α → Bool) (xs : List α) : decide (0 ≤ findI p xs) = xs.any p := by
  unfold findI
  cases h : xs.findIdx? p with
  | none =>
    rw [List.findIdx?_eq_none_iff] at h
    have : xs.any p = false := by rw [List.any_eq_false]; intro x hx; simp [h x hx]
    simp [this]
  | some i =>
    rw [List.findIdx?_eq_some_iff_getElem] at h
    obtain ⟨hk, hp, _⟩ := h
    have : xs.any p = true := List.any_eq_true.2 ⟨xs[i], List.getElem_mem hk, hp⟩
    simp [this]

set_option maxRecDepth 100000 in
set_option maxHeartbeats 1000000 in
theorem indexI (w : World) (a : Option Addr) (c : Nat) (xs : List Int) (x : Int) (hR : RdI w a xs) (hl : xs.length ≤ 2000000) :
    Calls Try.prog 181 #[.slice a xs.length c, .int .i64 x] w fun e w' => e = .returned (.int .i64 (findI (fun y => x == y) xs)) ∧ Ext w w' := by
  go_enter Try.func181, Try.ntmps181
  go_wp2_with fail
  go_loopw [5, 8] (fun _ i wr => ∃ k : Nat, k ≤ xs.length ∧ i = .int .i64 k ∧ (xs.take k).all (fun y => !(x == y)) = true ∧ Ext w wr) (fun _ i _ => xs.length - (intOf i).toNat)
  case atStart => exact ⟨0, Nat.zero_le _, rfl, rfl, Ext.refl _⟩
  case round =>
    obtain ⟨k, hk, rfl, hall, hwr⟩ := hrel
    have HA := hide hall
    clear hall
    by_cases hlt : k < xs.length
    · obtain ⟨y, hy⟩ := at_of_lt hlt
      obtain ⟨b, off, rfl, c0⟩ := (hR.ext hwr).at_ hy
      have HY := hide hy
      clear hy
      cases hp : (x == y)
      all_goals go_wp2
      · exact ⟨⟨k + 1, by omega, by go_num, (all_take HY.out HA.out).trans (by simp [hp]), hwr⟩, by simp [intOf]; omega⟩
      · go_ret
        exact ⟨ret_int (findI_some HY.out HA.out hp).symm, hwr⟩
    · go_wp2
      go_ret
      exact ⟨ret_int (findI_none (all_whole (by omega) HA.out)).symm, hwr⟩

def hasI (xs : List Int) (x : Int) : Bool := xs.contains x

set_option maxRecDepth 100000 in
set_option maxHeartbeats 1000000 in
theorem containsI (w : World) (B : Nat) (v : Value) (xs : List Int) (x : Int) (hV : RdB w B v xs) (hl : xs.length ≤ 2000000) :
    Calls Try.prog 99 #[v, .int .i64 x] w fun e w' => e = .returned (.bool (hasI xs x)) ∧ Ext w w' := by
  obtain ⟨a, c, rfl, hR, _⟩ := hV
  go_enter Try.func99, Try.ntmps99
  go_wp2_with (go_at_call 181; refine (indexI _ _ _ _ _ hR hl).mono ?_; rintro e w1 ⟨rfl, hw1⟩)
  go_ret
  refine ⟨ret_bool ?_, hw1⟩
  have h := findI_nonneg (fun y => x == y) xs
  have e : xs.any (fun y => x == y) = xs.contains x := by
    rw [Bool.eq_iff_iff, List.any_eq_true, List.contains_iff_mem]
    constructor
    · rintro ⟨y, hy, he⟩
      have : x = y := by simpa using he
      subst this; exact hy
    · intro hx; exact ⟨x, hx, by simp⟩
  unfold hasI
  rw [← e, ← h]

set_option maxRecDepth 100000 in
set_option maxHeartbeats 1000000 in
theorem indexFuncP (K : Nat) (fst cap : Array Value) (p : Int × Int → Bool) (w : World) (a : Option Addr) (c : Nat) (bs : List (Int × Int)) (hR : RdP w a bs) (hl : bs.length ≤ 2000000) (hK : Enters Try.prog K)
    (hf : ∀ (x : Int × Int) (w' : World), x ∈ bs → Ext w w' → Calls Try.prog K (fst.push (.agg #[.int .i64 x.1, .int .i64 x.2]) ++ cap) w' fun e w'' => e = .returned (.bool (p x)) ∧ Ext w' w'') :
    Calls Try.prog 180 #[.slice a bs.length c, .func (.func K) fst cap] w fun e w' => e = .returned (.int .i64 (findI p bs)) ∧ Ext w w' := by
  unfold Enters at hK
  have HF := hide hf
  clear hf
  go_enter Try.func180, Try.ntmps180
  go_wp2_with fail
  go_loopw [5, 8] (fun _ i wr => ∃ k : Nat, k ≤ bs.length ∧ i = .int .i64 k ∧ (bs.take k).all (fun x => !p x) = true ∧ Ext w wr) (fun _ i _ => bs.length - (intOf i).toNat)
  case atStart => exact ⟨0, Nat.zero_le _, rfl, rfl, Ext.refl _⟩
  case round =>
    obtain ⟨k, hk, rfl, hall, hwr⟩ := hrel
    by_cases hlt : k < bs.length
    · obtain ⟨x, hx⟩ := at_of_lt hlt
      obtain ⟨b, off, rfl, c0, c1⟩ := (hR.ext hwr).at_ hx
      cases hp : p x
      all_goals
        go_wp2_with fail
        refine (HF.out x wr (List.mem_of_getElem? hx) hwr).mono ?_
        rintro e w1 ⟨rfl, hw1⟩
        go_wp2
      · exact ⟨⟨k + 1, by omega, by go_num, (all_take hx hall).trans (by simp [hp]), hwr.trans hw1⟩, by simp [intOf]; omega⟩
      · go_ret
        exact ⟨ret_int (findI_some hx hall hp).symm, hwr.trans hw1⟩
    · go_wp2
      go_ret
      exact ⟨ret_int (findI_none (all_whole (by omega) hall)).symm, hwr⟩

set_option maxRecDepth 100000 in
set_option maxHeartbeats 1000000 in
theorem containsFuncP (K : Nat) (fst cap : Array Value) (p : Int × Int → Bool) (w : World) (a : Option Addr) (c : Nat) (bs : List (Int × Int)) (hR : RdP w a bs) (hl : bs.length ≤ 2000000) (hK : Enters Try.prog K)
    (hf : ∀ (x : Int × Int) (w' : World), x ∈ bs → Ext w w' → Calls Try.prog K (fst.push (.agg #[.int .i64 x.1, .int .i64 x.2]) ++ cap) w' fun e w'' => e = .returned (.bool (p x)) ∧ Ext w' w'') :
    Calls Try.prog 95 #[.slice a bs.length c, .func (.func K) fst cap] w fun e w' => e = .returned (.bool (bs.any p)) ∧ Ext w w' := by
  have H := hide (indexFuncP K fst cap p w a c bs hR hl hK hf)
  clear hf
  go_enter Try.func95, Try.ntmps95
  go_wp2_with fail
  refine H.out.mono ?_
  rintro e w1 ⟨rfl, hw1⟩
  go_wp2
  go_ret
  exact ⟨ret_bool (findI_nonneg p bs), hw1⟩

set_option maxRecDepth 100000 in
set_option maxHeartbeats 1000000 in
theorem has_impl (w : World) (sz x : Int) (v : Value) (hlo : 1 ≤ sz) (hhi : sz ≤ 6) :
    Calls Try.prog 97 #[.agg #[.int .i64 sz, v], .int .i64 x] w fun e w' => e = .returned (.bool (inR x 0 (topOf sz))) ∧ Ext w w' := by
  have htop := top_wrap64 hlo hhi
  go_enter Try.func97, Try.ntmps97
  go_wp2_with (go_at_call 94; refine (in_impl _ _ _ _).mono ?_; rintro e w1 ⟨rfl, hw1⟩; have hc1 := hw1.cellS; have hf1 := hw1.frozenS)
  go_ret
  exact ⟨rfl, hw1.a⟩

set_option maxRecDepth 100000 in
set_option maxHeartbeats 1000000 in
theorem okOne_impl (w : World) (sz : Int) (v : Value) (b off : Nat) (x : Int × Int) (hlo : 1 ≤ sz) (hhi : sz ≤ 6)
    (h0 : w.cell? ⟨b, off, none⟩ = some (.int .i64 sz)) (h1 : w.cell? ⟨b, off + 1, none⟩ = some v) :
    Calls Try.prog 96 #[.agg #[.int .i64 x.1, .int .i64 x.2], .pointer (some ⟨b, off, none⟩)] w fun e w' => e = .returned (.bool (!balOk sz x)) ∧ Ext w w' := by
  cases g1 : inR x.1 0 (topOf sz)
  all_goals
    go_enter Try.func96, Try.ntmps96
    go_wp2_with (first | (go_at_call 97; refine (has_impl _ _ _ _ hlo hhi).mono ?_; rintro e w1 ⟨rfl, hw1⟩; have hc1 := hw1.cellS; have hf1 := hw1.frozenS) | (go_at_call 94; refine (in_impl _ _ _ _).mono ?_; rintro e w1 ⟨rfl, hw1⟩; have hc1 := hw1.cellS; have hf1 := hw1.frozenS))
    go_ret
  · exact ⟨ret_bool (by simp [balOk, g1]), hw1.a⟩
  · exact ⟨ret_bool (by simp [balOk, g1]), (by repeat (first | exact Ext.refl _ | assumption | refine Ext.alloc ?_ _ | refine Ext.drew ?_ | refine Ext.trans ?_ (by assumption)))⟩

set_option maxRecDepth 100000 in
set_option maxHeartbeats 1000000 in
theorem ok_impl (w : World) (sz : Int) (a : Option Addr) (c : Nat) (bs : List (Int × Int)) (hR : RdP w a bs) :
    Calls Try.prog 16 #[.agg #[.int .i64 sz, .slice a bs.length c]] w fun e w' => e = .returned (.bool (appOk sz bs)) ∧ Ext w w' := by
  cases h1 : inR sz 1 6
  · go_enter Try.func16, Try.ntmps16
    go_wp2_with (go_at_call 94; refine (in_impl _ _ _ _).mono ?_; rintro e w1 ⟨rfl, hw1⟩; have hc1 := hw1.cellS; have hf1 := hw1.frozenS)
    go_ret
    exact ⟨ret_bool (by simp [appOk, h1]), hw1.a⟩
  obtain ⟨hlo, hhi⟩ := inR_iff.1 h1
  by_cases hl : bs.length ≤ 12
  · have HC := hide (fun (w1 : World) (hw1 : Ext (w.alloc (.cells #[.int .i64 sz, .slice a bs.length c] 25)) w1) =>
      containsFuncP 96 #[] #[.pointer (some ⟨w.heap.size, 0, none⟩)] (fun x => !balOk sz x) w1 a c bs (hR.ext hw1.a) (by omega) (fun _ _ => Try.call96 _ _)
        (fun x w' _ hw' => okOne_impl w' sz _ _ 0 x hlo hhi (hw'.keep (hw1.keep (new0 w _ _ _))) (hw'.keep (hw1.keep (new1 w _ _ _ _)))))
    go_enter Try.func16, Try.ntmps16
    go_wp2_with (go_at_call 94; refine (in_impl _ _ _ _).mono ?_; rintro e w1 ⟨rfl, hw1⟩; have hc1 := hw1.cellS; have hf1 := hw1.frozenS)
    refine (HC.out _ hw1).mono ?_
    rintro e w2 ⟨rfl, hw2⟩
    go_wp2
    go_ret
    exact ⟨ret_bool (by simp [appOk, h1, hl, any_not]), hw1.a.trans hw2⟩
  · go_enter Try.func16, Try.ntmps16
    go_wp2_with (go_at_call 94; refine (in_impl _ _ _ _).mono ?_; rintro e w1 ⟨rfl, hw1⟩; have hc1 := hw1.cellS; have hf1 := hw1.frozenS)
    go_ret
    exact ⟨ret_bool (by simp [appOk, hl]), hw1.a⟩

def bitAt (s : Int) (a : Nat) : Bool := s.toNat.testBit a
def cntTo (s : Int) (k : Nat) : Int := ((List.range k).countP (bitAt s) : Nat)
set_option maxRecDepth 100000 in
theorem cnt_hit {s : Int} {k : Nat} (h : bitAt s k = true) : cntTo s (k + 1) = cntTo s k + 1 := by
  simp [cntTo, List.range_succ, List.countP_append, h]
set_option maxRecDepth 100000 in
theorem cnt_miss {s : Int} {k : Nat} (h : bitAt s k = false) : cntTo s (k + 1) = cntTo s k := by
  simp [cntTo, List.range_succ, List.countP_append, h]
set_option maxRecDepth 100000 in
theorem cnt_bd (s : Int) (k : Nat) : 0 ≤ cntTo s k ∧ cntTo s k ≤ k := by
  unfold cntTo
  have h := List.countP_le_length (p := bitAt s) (l := List.range k)
  rw [List.length_range] at h
  omega
set_option maxRecDepth 100000 in
theorem sets {p : Int → Prop} (h : ∀ n : Nat, n < 64 → p (n : Int)) {s : Int} (h0 : 0 ≤ s) (h63 : s ≤ 63) : p s := by
  have := h s.toNat (by omega)
  rwa [Int.toNat_of_nonneg h0] at this
set_option maxRecDepth 100000 in
theorem pow_wrap {k : Nat} (h : k < 6) : wrap64 (2 ^ k) = 2 ^ k := by
  have : k = 0 ∨ k = 1 ∨ k = 2 ∨ k = 3 ∨ k = 4 ∨ k = 5 := by omega
  rcases this with rfl | rfl | rfl | rfl | rfl | rfl <;> exact IntWalk.wrap64_in _ (by decide)
set_option maxRecDepth 100000 in
theorem bit_spec {s : Int} (h0 : 0 ≤ s) (h63 : s ≤ 63) {k : Nat} (h : k < 6) : (bits BinOp.and IntKind.i64 s (2 ^ k) != 0) = bitAt s k := by
  refine sets (p := fun s => (bits BinOp.and IntKind.i64 s (2 ^ k) != 0) = bitAt s k) (fun n hn => ?_) h0 h63
  have : k = 0 ∨ k = 1 ∨ k = 2 ∨ k = 3 ∨ k = 4 ∨ k = 5 := by omega
  rcases this with rfl | rfl | rfl | rfl | rfl | rfl <;> revert n <;> decide

set_option maxRecDepth 100000 in
theorem and_u64 (a b : Int) : bits BinOp.and IntKind.u64 a b = IntKind.u64.wrap ((BitVec.ofInt 64 a &&& BitVec.ofInt 64 b).toNat : Int) := rfl
set_option maxRecDepth 100000 in
theorem and_i64 (a b : Int) : bits BinOp.and IntKind.i64 a b = IntKind.i64.wrap ((BitVec.ofInt 64 a &&& BitVec.ofInt 64 b).toNat : Int) := rfl

set_option maxRecDepth 100000 in
set_option maxHeartbeats 0 in
theorem ones64 (n : Nat) (hn : n < 64) (w : World) :
    Calls Try.prog 185 #[.int .u64 (n : Int)] w fun e w' => e = .returned (.int .i64 (cntTo (n : Int) 6)) ∧ Ext w w' := by
  have hb := and_u64
  have hw := IntKind.wrap_u64
  have hb' := and_i64
  have hw' := IntKind.wrap_i64
  have hc : n = 0 ∨ n = 1 ∨ n = 2 ∨ n = 3 ∨ n = 4 ∨ n = 5 ∨ n = 6 ∨ n = 7 ∨ n = 8 ∨ n = 9 ∨ n = 10 ∨ n = 11 ∨ n = 12 ∨ n = 13 ∨ n = 14 ∨ n = 15 ∨ n = 16 ∨ n = 17 ∨ n = 18 ∨ n = 19 ∨ n = 20 ∨ n = 21 ∨ n = 22 ∨ n = 23 ∨ n = 24 ∨ n = 25 ∨ n = 26 ∨ n = 27 ∨ n = 28 ∨ n = 29 ∨ n = 30 ∨ n = 31 ∨ n = 32 ∨ n = 33 ∨ n = 34 ∨ n = 35 ∨ n = 36 ∨ n = 37 ∨ n = 38 ∨ n = 39 ∨ n = 40 ∨ n = 41 ∨ n = 42 ∨ n = 43 ∨ n = 44 ∨ n = 45 ∨ n = 46 ∨ n = 47 ∨ n = 48 ∨ n = 49 ∨ n = 50 ∨ n = 51 ∨ n = 52 ∨ n = 53 ∨ n = 54 ∨ n = 55 ∨ n = 56 ∨ n = 57 ∨ n = 58 ∨ n = 59 ∨ n = 60 ∨ n = 61 ∨ n = 62 ∨ n = 63 := by omega
  rcases hc with rfl | rfl | rfl | rfl | rfl | rfl | rfl | rfl | rfl | rfl | rfl | rfl | rfl | rfl | rfl | rfl | rfl | rfl | rfl | rfl | rfl | rfl | rfl | rfl | rfl | rfl | rfl | rfl | rfl | rfl | rfl | rfl | rfl | rfl | rfl | rfl | rfl | rfl | rfl | rfl | rfl | rfl | rfl | rfl | rfl | rfl | rfl | rfl | rfl | rfl | rfl | rfl | rfl | rfl | rfl | rfl | rfl | rfl | rfl | rfl | rfl | rfl | rfl | rfl
  all_goals
    go_enter Try.func185, Try.ntmps185
    go_wp2
    go_ret
    exact ⟨ret_int (by decide), Ext.refl _⟩

set_option maxRecDepth 100000 in
set_option maxHeartbeats 1000000 in
theorem onesW (n : Nat) (hn : n < 64) (w : World) :
    Calls Try.prog 106 #[.int .u64 (n : Int)] w fun e w' => e = .returned (.int .i64 (cntTo (n : Int) 6)) ∧ Ext w w' := by
  go_enter Try.func106, Try.ntmps106
  go_wp2_with (go_at_call 185; refine (ones64 n hn _).mono ?_; rintro e w1 ⟨rfl, hw1⟩; have hc1 := hw1.cellS; have hf1 := hw1.frozenS)
  go_ret
  exact ⟨rfl, hw1⟩

set_option maxRecDepth 100000 in
set_option maxHeartbeats 1000000 in
theorem size_impl (w : World) (s : Int) (h0 : 0 ≤ s) (h63 : s ≤ 63) :
    Calls Try.prog 23 #[.int .i64 s] w fun e w' => e = .returned (.int .i64 (cntTo s 6)) ∧ Ext w w' := by
  refine sets (p := fun s => Calls Try.prog 23 #[.int .i64 s] w fun e w' => e = .returned (.int .i64 (cntTo s 6)) ∧ Ext w w') (fun n hn => ?_) h0 h63
  have hin : inR (n : Int) 0 63 = true := inR_iff.2 (by omega)
  have hcv : IntKind.u64.wrap (n : Int) = (n : Int) := by rw [IntKind.wrap_u64]; omega
  go_enter Try.func23, Try.ntmps23
  go_wp2_with (first | (go_at_call 94; refine (in_impl _ _ _ _).mono ?_; rintro e w1 ⟨rfl, hw1⟩; have hc1 := hw1.cellS; have hf1 := hw1.frozenS) | (go_at_call 106; refine (onesW n hn _).mono ?_; rintro e w1 ⟨rfl, hw1⟩; have hc1 := hw1.cellS; have hf1 := hw1.frozenS))
  go_ret
  exact ⟨rfl, (by repeat (first | exact Ext.refl _ | assumption | refine Ext.alloc ?_ _ | refine Ext.drew ?_ | refine Ext.trans ?_ (by assumption)))⟩

/-- The common members of two sets. -/
def landI (a b : Int) : Int := bits BinOp.and IntKind.i64 a b
set_option maxRecDepth 100000 in
theorem landI_comm (a b : Int) : landI a b = landI b a := by
  show IntKind.i64.wrap _ = IntKind.i64.wrap _
  rw [BitVec.and_comm]
set_option maxRecDepth 100000 in
theorem ofInt_i64 (a : Nat) (ha : a < 9223372036854775808) : (BitVec.ofInt 64 (a : Int)).toNat = a := by
  rw [BitVec.ofInt_natCast, BitVec.toNat_ofNat]; exact Nat.mod_eq_of_lt (by omega)
set_option maxRecDepth 100000 in
theorem landI_nat (a b : Nat) (ha : a < 64) (hb : b < 64) : landI (a : Int) (b : Int) = ((a &&& b : Nat) : Int) := by
  have hx : a &&& b < 2 ^ 6 := Nat.and_lt_two_pow _ (by omega)
  show IntKind.i64.wrap ((BitVec.ofInt 64 (a : Int) &&& BitVec.ofInt 64 (b : Int)).toNat : Int) = _
  rw [BitVec.toNat_and, ofInt_i64 a (by omega), ofInt_i64 b (by omega), IntKind.wrap_i64]
  omega
set_option maxRecDepth 100000 in
theorem landI_bd {a b : Int} (a0 : 0 ≤ a) (a1 : a ≤ 63) (b0 : 0 ≤ b) (b1 : b ≤ 63) : 0 ≤ landI a b ∧ landI a b ≤ 63 := by
  have h := landI_nat a.toNat b.toNat (by omega) (by omega)
  rw [Int.toNat_of_nonneg a0, Int.toNat_of_nonneg b0] at h
  have hx : a.toNat &&& b.toNat < 2 ^ 6 := Nat.and_lt_two_pow _ (by omega)
  rw [h]; omega
set_option maxRecDepth 100000 in
theorem top_le {sz : Int} (h1 : 1 ≤ sz) (h6 : sz ≤ 6) : topOf sz ≤ 63 := by
  have : sz = 1 ∨ sz = 2 ∨ sz = 3 ∨ sz = 4 ∨ sz = 5 ∨ sz = 6 := by omega
  rcases this with rfl | rfl | rfl | rfl | rfl | rfl <;> decide
set_option maxRecDepth 100000 in
theorem ok_size {sz : Int} {bs : List (Int × Int)} (h : appOk sz bs = true) : 1 ≤ sz ∧ sz ≤ 6 := by
  simp only [appOk, Bool.and_eq_true] at h; exact inR_iff.1 h.1
set_option maxRecDepth 100000 in
theorem ok_len {sz : Int} {bs : List (Int × Int)} (h : appOk sz bs = true) : bs.length ≤ 12 := by
  simp only [appOk, Bool.and_eq_true, decide_eq_true_eq] at h; exact h.2.1
set_option maxRecDepth 100000 in
theorem ok_at {sz : Int} {bs : List (Int × Int)} (h : appOk sz bs = true) {x : Int × Int} (hx : x ∈ bs) : 0 ≤ x.1 ∧ x.1 ≤ topOf sz ∧ x.1 ≤ 63 ∧ 1 ≤ x.2 ∧ x.2 ≤ 1000 := by
  obtain ⟨h1, h6⟩ := ok_size h
  have ht := top_le h1 h6
  simp only [appOk, Bool.and_eq_true, decide_eq_true_eq] at h
  have h2 := List.all_eq_true.1 h.2.2 x hx
  simp only [balOk, Bool.and_eq_true] at h2
  have h3 := inR_iff.1 h2.1
  have h4 := inR_iff.1 h2.2
  omega

def seatsFor (sz : Int) (bs : List (Int × Int)) (set ballot : Int) : Int :=
  if appOk sz bs && inR set 0 (topOf sz) && inR ballot 0 (bs.length - 1) then cntTo (landI (bs.getD ballot.toNat (0, 0)).1 set) 6 else -1

end Go.Proofs.Ythiojkpoeejkaaa
