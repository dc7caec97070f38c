/- Memory: blocks that may be written, lists of the call's own, what has turned and what has not. What the statement's reading of its arguments says of memory. The range tests of both packages. The library's searches over integers. Which rankings are valid: both packages' tests answer as one plain function. -/
import Derived.Test.YtfmeklgdaabooaaGreatDoorRows
import Derived.Test.YtfmeklgdaabooaaGreatDoorCn0
import Derived.ProofKit
import Derived.OpenShut
import Derived.ShutString
import Derived.ChangeOld
import Derived.Below
import Derived.Deep.Slices
import Derived.Deep.Fields
import Derived.ChangeSame
import Derived.Lib.SmallJoins
namespace Go.Proofs.YtfmeklgdaabooaaGreatDoor
open Go.RowKit

/-- A block of n cells that may be written. -/
structure BlkF (w : World) (g n : Nat) (f : Nat → Value) : Prop where
  lt : g < w.heap.size
  fr : ∀ o, w.frozen? ⟨g, o, none⟩ = false
  cell : ∀ o, o < n → w.cell? ⟨g, o, none⟩ = some (f o)

set_option maxRecDepth 100000 in
theorem BlkF.ext {w w' : World} {g n : Nat} {f : Nat → Value} (h : BlkF w g n f) (hw : Ext w w') : BlkF w' g n f :=
  ⟨Nat.lt_of_lt_of_le h.lt hw.size, fun o => (hw.frozen (p := ⟨g, o, none⟩) h.lt).trans (h.fr o), fun o ho => hw.keep (h.cell o ho)⟩

set_option maxRecDepth 100000 in
theorem BlkF.new (w : World) (cs : Array Value) (t : TypeId) : BlkF (w.alloc (.cells cs t)) w.heap.size cs.size (fun o => cs.getD o undef) :=
  ⟨by simp, fun o => World.frozen?_alloc_at _ _ _ _ rfl, fun o ho => by rw [World.cell?_alloc_at _ _ _ _ rfl]; simp [ho]⟩

set_option maxRecDepth 100000 in
theorem BlkF.set {w : World} {g n : Nat} {f : Nat → Value} (h : BlkF w g n f) (i : Nat) (hi : i < n) (v : Value) : BlkF (w.setCell ⟨g, i, none⟩ v) g n (fun o => if o = i then v else f o) := by
  refine ⟨by simpa [World.setCell] using h.lt, fun o => (World.frozen?_setCell _ _ _ _).trans (h.fr o), fun o ho => ?_⟩
  by_cases e : o = i
  · subst e; rw [World.cell?_setCell_same _ _ _ (h.cell o ho)]; simp
  · rw [World.cell?_setCell_other _ _ _ _ (by simp only [ne_eq, Addr.mk.injEq, not_and]; omega)]; simp [e, h.cell o ho]

set_option maxRecDepth 100000 in
theorem BlkF.far {w : World} {g n : Nat} {f : Nat → Value} (h : BlkF w g n f) {p : Addr} (hp : p.block ≠ g) (v : Value) : BlkF (w.setCell p v) g n f :=
  ⟨by simpa [World.setCell] using h.lt, fun o => (World.frozen?_setCell _ _ _ _).trans (h.fr o), fun o ho => (World.cell?_setCell_other _ _ _ _ (by rintro rfl; exact hp rfl)).trans (h.cell o ho)⟩

set_option maxRecDepth 100000 in
theorem run_make_rowN {P : Program} (t e : TypeId) (i : TypeInfo) (z : Value) (ht : P.underlying t = some (.slice e)) (hi : P.info? e = some i) (hz : i.zero = some z)
    (kl kc : IntKind) (n c : Nat) (hnc : n ≤ c) (hbytes : i.bytes * c ≤ 281474976710656) (h63 : c ≤ 9223372036854775807) (w : World) :
    (Instr.makeSlice t (.int kl (n : Int)) (.int kc (c : Int))).run P w = .ok (.slice (some ⟨w.heap.size, 0, none⟩) n c) (w.alloc (.cells (madeCells z.cells (c * i.size)) e)) := by
  have hb : (i.bytes : Int) * (c : Int) ≤ 281474976710656 := by
    have h : ((i.bytes * c : Nat) : Int) ≤ 281474976710656 := by omega
    rwa [Int.natCast_mul] at h
  have hr := run_make (P := P) w t e i z ht hi hz kl kc n c (by omega) (by omega) hb (by omega)
  simp only [Int.toNat_natCast] at hr
  exact hr

set_option maxRecDepth 100000 in
theorem take_ext {α : Type} {xs ys : List α} {k : Nat} {x y : α} (h : xs.take k = ys.take k) (hx : xs[k]? = some x) (hy : ys[k]? = some y) (e : x = y) : xs.take (k + 1) = ys.take (k + 1) := by
  rw [take_at hx, take_at hy, h, e]

set_option maxRecDepth 100000 in
theorem info_int : (Tryz.prog.info? 3).map (fun i => (i.zero, i.size, i.bytes)) = some (some (.int .i64 0), 1, 8) := by kernel_rfl

/-- v is a list of integers of the call's own, in a block from B on. -/
def OwnI (w : World) (B : Nat) (v : Value) (xs : List Int) : Prop := w.ownsRow B 3 1 v xs.length (xs.map (Value.int .i64))

set_option maxRecDepth 100000 in
theorem OwnI.nil (w : World) (B : Nat) : OwnI w B (.slice none 0 0) [] := World.ownsRow_nil _ _ _ _

set_option maxRecDepth 100000 in
theorem ownsRow_ext {w w' : World} {B : Nat} {e : TypeId} {size : Nat} {v : Value} {n : Nat} {xs : List Value} (h : w.ownsRow B e size v n xs) (hw : Ext w w') : w'.ownsRow B e size v n xs := by
  obtain ⟨h1, h2⟩ := h
  refine ⟨h1, ?_⟩
  rcases h2 with h2 | ⟨g, cap, cur, hv, hg, hh, r⟩
  · exact .inl h2
  · refine .inr ⟨g, cap, cur, hv, hg, ?_, r⟩
    have hlt : g < w.heap.size := by
      rcases Nat.lt_or_ge g w.heap.size with hlt | hge
      · exact hlt
      · rw [Array.getElem?_eq_none hge] at hh; cases hh
    rw [Below.block hw g hlt]; exact hh

set_option maxRecDepth 100000 in
theorem OwnI.ext {w w' : World} {B : Nat} {v : Value} {xs : List Int} (h : OwnI w B v xs) (hw : Ext w w') : OwnI w' B v xs := ownsRow_ext h hw

set_option maxRecDepth 100000 in
theorem ownsRow_base {w : World} {B B' : Nat} {e : TypeId} {size : Nat} {v : Value} {n : Nat} {xs : List Value} (h : w.ownsRow B e size v n xs) (hb : B' ≤ B) : w.ownsRow B' e size v n xs := by
  obtain ⟨h1, h2⟩ := h
  refine ⟨h1, ?_⟩
  rcases h2 with h2 | ⟨g, cap, cur, hv, hg, r⟩
  · exact .inl h2
  · exact .inr ⟨g, cap, cur, hv, Nat.le_trans hb hg, r⟩

set_option maxRecDepth 100000 in
theorem OwnI.made0 (w : World) : OwnI (w.alloc (.cells #[] 3)) w.heap.size (.slice (some ⟨w.heap.size, 0, none⟩) 0 0) [] :=
  ⟨rfl, .inr ⟨w.heap.size, 0, #[], rfl, Nat.le_refl _, heap_alloc_new _ _, Nat.le_refl _, by simp, rfl, rfl⟩⟩

set_option maxRecDepth 100000 in
theorem OwnI.base {w : World} {B B' : Nat} {v : Value} {xs : List Int} (h : OwnI w B v xs) (hb : B' ≤ B) : OwnI w B' v xs := ownsRow_base h hb

set_option maxRecDepth 100000 in
theorem ownsRow_block {w : World} {B : Nat} {e : TypeId} {size : Nat} {v : Value} {n : Nat} {xs : List Value} (h : w.ownsRow B e size v n xs) : ∀ k, v.ownBlock = some k → B ≤ k := fun k hk => (h.lt k hk).1

set_option maxRecDepth 100000 in
theorem Ext.grown {W w w' : World} {row : Option Nat} (h : Ext W w) (hg : w.grownBy w' row) (hr : ∀ k, row = some k → W.heap.size ≤ k) : Ext W w' := Below.grown h hg h.size hr

set_option maxRecDepth 100000 in
/-- What such a list is, as a value. -/
theorem OwnI.val {w : World} {B : Nat} {v : Value} {xs : List Int} (h : OwnI w B v xs) :
    ∃ a c, v = .slice a xs.length c ∧ xs.length ≤ c ∧ c ≤ maxLen ∧ RdI w a xs ∧ (xs ≠ [] → ∃ g, a = some ⟨g, 0, none⟩ ∧ B ≤ g ∧ BlkF w g xs.length (fun j => .int .i64 (xs.getD j 0))) := by
  obtain ⟨h1, h2⟩ := h
  rcases h2 with ⟨rfl, h2⟩ | ⟨g, cap, cur, rfl, hg, hh, hc, hm, hs, ht⟩
  · have : xs = [] := List.length_eq_zero_iff.1 h2
    subst this
    exact ⟨none, 0, rfl, Nat.le_refl _, by simp, RdI.nil _ _, fun h => absurd rfl h⟩
  · have hlt : g < w.heap.size := by
      rcases Nat.lt_or_ge g w.heap.size with hlt | hge
      · exact hlt
      · rw [Array.getElem?_eq_none hge] at hh; cases hh
    have hcell : ∀ (j : Nat) (x : Int), xs[j]? = some x → w.cell? ⟨g, j, none⟩ = some (.int .i64 x) := fun j x hx => by
      have hj := lt_of_at hx
      have h3 : (cur.toList.take (xs.length * 1))[j]? = some (.int .i64 x) := by rw [ht]; simp [hx]
      rw [List.getElem?_take, if_pos (by omega)] at h3
      simp only [World.cell?, hh]
      simpa using h3
    refine ⟨some ⟨g, 0, none⟩, cap, rfl, hc, hm, fun _ => ⟨g, 0, rfl, fun j x hx => by rw [Nat.zero_add]; exact hcell j x hx⟩, fun _ => ⟨g, rfl, hg, hlt, fun o => by simp [World.frozen?, hh], fun o ho => ?_⟩⟩
    obtain ⟨x, hx⟩ := at_of_lt ho
    rw [hcell o x hx]; simp [hx]

/-- v reads as the integers xs, in a block from B on. -/
def FrI (w : World) (B : Nat) (v : Value) (xs : List Int) : Prop := ∃ a c, v = .slice a xs.length c ∧ xs.length ≤ c ∧ RdI w a xs ∧ ∀ b off, a = some ⟨b, off, none⟩ → xs ≠ [] → B ≤ b ∧ b < w.heap.size

set_option maxRecDepth 100000 in
theorem OwnI.fr {w : World} {B : Nat} {v : Value} {xs : List Int} (h : OwnI w B v xs) : FrI w B v xs := by
  obtain ⟨a, c, hv, hc, _, hR, ho⟩ := h.val
  refine ⟨a, c, hv, hc, hR, fun b off ha hne => ?_⟩
  obtain ⟨g, hg, hB, hb⟩ := ho hne
  rw [hg] at ha
  injection ha with ha
  injection ha with ha
  subst ha
  exact ⟨hB, hb.lt⟩

set_option maxRecDepth 100000 in
theorem FrI.fr {w : World} {B : Nat} {v : Value} {xs : List Int} (h : FrI w B v xs) : FrI w B v xs := h

set_option maxRecDepth 100000 in
theorem FrI.ext {w w' : World} {B : Nat} {v : Value} {xs : List Int} (h : FrI w B v xs) (hw : Ext w w') : FrI w' B v xs := by
  obtain ⟨a, c, hv, hc, hR, hb⟩ := h
  exact ⟨a, c, hv, hc, hR.ext hw, fun b off ha hne => ⟨(hb b off ha hne).1, Nat.lt_of_lt_of_le (hb b off ha hne).2 hw.size⟩⟩

set_option maxRecDepth 100000 in
theorem FrI.base {w : World} {B B' : Nat} {v : Value} {xs : List Int} (h : FrI w B v xs) (hB : B' ≤ B) : FrI w B' v xs := by
  obtain ⟨a, c, hv, hc, hR, hb⟩ := h
  exact ⟨a, c, hv, hc, hR, fun b off ha hne => ⟨Nat.le_trans hB (hb b off ha hne).1, (hb b off ha hne).2⟩⟩

set_option maxRecDepth 100000 in
theorem FrI.nil (w : World) (B : Nat) (a : Option Addr) (c : Nat) : FrI w B (.slice a 0 c) [] := ⟨a, c, rfl, Nat.zero_le _, RdI.nil _ _, fun _ _ _ h => absurd rfl h⟩

set_option maxRecDepth 100000 in
theorem BlkF.frI {w : World} {g n B c : Nat} {f : Nat → Value} {xs : List Int} (hB : BlkF w g n f) (hn : xs.length = n) (hf : ∀ (j : Nat) (x : Int), xs[j]? = some x → f j = .int .i64 x) (hg : B ≤ g) (hc : n ≤ c) : FrI w B (.slice (some ⟨g, 0, none⟩) n c) xs := by
  subst hn
  refine ⟨some ⟨g, 0, none⟩, c, rfl, hc, fun _ => ⟨g, 0, rfl, fun j x hx => ?_⟩, fun b off ha _ => ?_⟩
  · rw [Nat.zero_add, hB.cell j (lt_of_at hx), hf j x hx]
  · injection ha with ha
    injection ha with ha
    subst ha
    exact ⟨hg, hB.lt⟩

set_option maxRecDepth 100000 in
theorem BlkF.congr {w : World} {g n : Nat} {f f' : Nat → Value} (h : BlkF w g n f) (hf : ∀ o, o < n → f o = f' o) : BlkF w g n f' := ⟨h.lt, h.fr, fun o ho => by rw [h.cell o ho, hf o ho]⟩

set_option maxRecDepth 100000 in
theorem made_int (n j : Nat) (hj : j < n) : (madeCells (Value.int .i64 0).cells n).getD j undef = .int .i64 0 := by
  have h := toList_madeCells_one (.int .i64 0) n
  have h2 : (madeCells #[Value.int .i64 0] n).toList[j]? = some (.int .i64 0) := by rw [h]; simp [hj]
  show (madeCells #[Value.int .i64 0] n).getD j undef = _
  rw [Array.getElem?_toList] at h2
  simp [h2]

set_option maxRecDepth 100000 in
theorem wpList_appI {ops : Array Oper} {rest : List Oper} {o : Oper} {a : Act} {Q : Exit → Act → World → Prop} (W0 w3 : World) (hgd : o.guard = none) (s x : Operand)
    (ho : o.op = .call { callee := .builtin .append, args := #[s, x], argTypes := #[28, 28] }) (v : Value) (xs : List Int) (y : Int) (hs : a.eval s = v) (hown : OwnI w3 W0.heap.size v xs) (hW : Ext W0 w3)
    (hx : a.eval x = .slice (some ⟨w3.heap.size, 0, none⟩) 1 1) (hlen : xs.length ≤ 2000000)
    (h : ∀ v' w', OwnI w' W0.heap.size v' (xs ++ [y]) → Ext W0 w' → wpList Tryz.prog ops Q rest (a.put o.dst v') w') : wpList Tryz.prog ops Q (o :: rest) a (w3.alloc (.cells #[.int .i64 y] 3)) := by
  obtain ⟨i0, hi, hz0, hz1, hz2⟩ := info_parts info_int
  have hW3 : Ext W0 (w3.alloc (.cells #[.int .i64 y] 3)) := hW.alloc _
  have hown3 := hown.ext (Ext.new w3 (.cells #[.int .i64 y] 3))
  refine wpList_append_own _ hgd s x 28 ho W0.heap.size 3 i0 (.int .i64 0) 1 8 Tryz.underlying28 hi hz0 hz1 hz2 rfl (by decide) v xs.length _ hs hown3 ⟨w3.heap.size, 0, none⟩ 1 1 [.int .i64 y] hx rfl ?_ ?_ ?_ ?_ hW3.size ?_
  · intro j u hj
    match j, hj with
    | 0, hj => simp at hj; subst hj; simp [Addr.add]
  · intro u hu; simp at hu; subst hu; rfl
  · unfold maxLen; omega
  · omega
  · intro v' w' h1 h2 _
    refine h v' w' ?_ (hW3.grown h2 (ownsRow_block hown3))
    unfold OwnI
    simpa using h1

set_option maxRecDepth 100000 in
theorem oper_no {P : Program} {o : Oper} {a : Act} {w : World} {K : World → Act → Prop} (h : o.wp P a w (fun a' w' => Exit.normal = .normal ∧ K w' a') (fun e a w => e = .normal ∧ K w a)) : o.wp P a w (fun a' w' => K w' a') NoExit := by
  unfold Oper.wp at *
  generalize (execOp a.eval o).run P w = r at *
  cases r with
  | ok n w' =>
    cases n <;> simp only [Oper.upon] at h ⊢
    case value u => exact h.2
    case skip => exact h.2
    case defer d => exact h.2
    case enter f args =>
      refine Calls.mono h fun e w'' he => ?_
      cases e with
      | returned u => exact he.2
      | panicked c => exact absurd he.1 (by simp)
      | outgrown => obtain ⟨_, _, h1, _⟩ := he; cases h1
    case row row args => exact Rows.mono h fun u w'' he => he.2
  | halt x w' => cases x <;> simp only [Oper.upon] at h ⊢ <;> first | exact h.elim | exact absurd h.1 (by simp)

set_option maxRecDepth 100000 in
/-- One integer appended inside a drawn region. -/
theorem oper_appI {o : Oper} {a : Act} {K : World → Act → Prop} (W0 w3 : World) (hgd : o.guard = none) (s x : Operand)
    (ho : o.op = .call { callee := .builtin .append, args := #[s, x], argTypes := #[28, 28] }) (v : Value) (xs : List Int) (y : Int) (gx : Nat) (hs : a.eval s = v) (hown : OwnI w3 W0.heap.size v xs) (hW : Ext W0 w3)
    (hx : a.eval x = .slice (some ⟨gx, 0, none⟩) 1 1) (hc : w3.cell? ⟨gx, 0, none⟩ = some (.int .i64 y)) (hlen : xs.length ≤ 2000000)
    (h : ∀ v' w', OwnI w' W0.heap.size v' (xs ++ [y]) → Ext W0 w' → K w' (a.put o.dst v')) : o.wp Tryz.prog a w3 (fun a' w' => K w' a') NoExit := by
  obtain ⟨i0, hi, hz0, hz1, hz2⟩ := info_parts info_int
  have h1 : wpList Tryz.prog #[] (fun e a w => e = .normal ∧ K w a) [o] a w3 := by
    refine wpList_append_own _ hgd s x 28 ho W0.heap.size 3 i0 (.int .i64 0) 1 8 Tryz.underlying28 hi hz0 hz1 hz2 rfl (by decide) v xs.length _ hs hown ⟨gx, 0, none⟩ 1 1 [.int .i64 y] hx rfl ?_ ?_ ?_ ?_ hW.size ?_
    · intro j u hj
      match j, hj with
      | 0, hj => simp at hj; subst hj; simpa [Addr.add] using hc
    · intro u hu; simp at hu; subst hu; rfl
    · unfold maxLen; omega
    · omega
    · intro v' w' h1 h2 _
      refine ⟨rfl, h v' w' ?_ (hW.grown h2 (ownsRow_block hown))⟩
      unfold OwnI
      simpa using h1
  unfold wpList at h1
  split at h1
  · rcases h1 with h1 | ⟨_, _, _, h1, _⟩
    · exact oper_no h1
    · cases h1
  · rename_i hw
    exact absurd (by simp [Region.wanted, hgd]) hw

/-- Only block g has turned (and memory is added). -/
def Only (g : Nat) (w w' : World) : Prop := w.grownBy w' (some g)

set_option maxRecDepth 100000 in
theorem Only.refl (g : Nat) (w : World) : Only g w w := ⟨rfl, rfl, rfl, Nat.le_refl _, fun _ _ _ => rfl⟩

set_option maxRecDepth 100000 in
theorem Only.trans {g : Nat} {a b c : World} (h : Only g a b) (k : Only g b c) : Only g a c :=
  ⟨k.os.trans h.os, k.tape.trans h.tape, k.output.trans h.output, Nat.le_trans h.size k.size, fun i hi hne => (k.block i (Nat.lt_of_lt_of_le hi h.size) hne).trans (h.block i hi hne)⟩

set_option maxRecDepth 100000 in
theorem Only.setCell {g : Nat} {a w : World} (h : Only g a w) (i : Nat) (v : Value) : Only g a (w.setCell ⟨g, i, none⟩ v) :=
  ⟨h.os, h.tape, h.output, by simpa [World.setCell] using h.size, fun k hk hne => (Below.heap_setCell w _ v k (by rintro rfl; exact hne rfl)).trans (h.block k hk hne)⟩

set_option maxRecDepth 100000 in
theorem Only.of_ext {g : Nat} {w w' : World} (h : Ext w w') : Only g w w' := ⟨h.os, h.tape, h.output, Below.size h, fun k hk _ => Below.block h k hk⟩

set_option maxRecDepth 100000 in
theorem Only.keep {g : Nat} {w w' : World} (h : Only g w w') {p : Addr} (hp : p.block ≠ g) {v : Value} (hc : w.cell? p = some v) : w'.cell? p = some v :=
  (World.cell?_of_block (w := w) (h.block p.block (World.block_lt_of_cell? w p hc) (fun e => hp (by injection e)))).trans hc

set_option maxRecDepth 100000 in
theorem Only.ext {g : Nat} {W w w' : World} (h : Ext W w) (hg : Only g w w') (hb : W.heap.size ≤ g) : Ext W w' := h.grown hg (fun k hk => by injection hk with hk; omega)

set_option maxRecDepth 100000 in
theorem Only.rdI {g : Nat} {w w' : World} (h : Only g w w') {a : Option Addr} {xs : List Int} (hr : RdI w a xs) (hne : ∀ b off, a = some ⟨b, off, none⟩ → b ≠ g) : RdI w' a xs := fun hx => by
  obtain ⟨b, off, rfl, hc⟩ := hr hx
  exact ⟨b, off, rfl, fun j x hj => h.keep (hne b off rfl) (hc j x hj)⟩

set_option maxRecDepth 100000 in
theorem Only.rdP {g : Nat} {w w' : World} (h : Only g w w') {a : Option Addr} {xs : List (Int × Int)} (hr : RdP w a xs) (hne : ∀ b off, a = some ⟨b, off, none⟩ → b ≠ g) : RdP w' a xs := fun hx => by
  obtain ⟨b, off, rfl, hc⟩ := hr hx
  exact ⟨b, off, rfl, fun j x hj => ⟨h.keep (hne b off rfl) (hc j x hj).1, h.keep (hne b off rfl) (hc j x hj).2⟩⟩

set_option maxRecDepth 100000 in
theorem Only.blk {g g' n : Nat} {f : Nat → Value} {w w' : World} (h : Only g w w') (hb : BlkF w g' n f) (hne : g' ≠ g) : BlkF w' g' n f :=
  ⟨Nat.lt_of_lt_of_le hb.lt h.size, fun o => (World.frozen?_of_block (w := w) (h.block g' hb.lt (fun e => hne (by injection e)))).trans (hb.fr o), fun o ho => h.keep (by exact hne) (hb.cell o ho)⟩

/-- Only blocks from lo on and below hi have turned (and memory is added). -/
structure Rng (lo hi : Nat) (w w' : World) : Prop where
  os : w'.os = w.os
  tape : w'.tape = w.tape
  output : w'.output = w.output
  size : w.heap.size ≤ w'.heap.size
  block : ∀ k, k < w.heap.size → ¬ (lo ≤ k ∧ k < hi) → w'.heap[k]? = w.heap[k]?

set_option maxRecDepth 100000 in
theorem Rng.of_ext {lo hi : Nat} {w w' : World} (h : Ext w w') : Rng lo hi w w' := ⟨h.os, h.tape, h.output, Below.size h, fun k hk _ => Below.block h k hk⟩

set_option maxRecDepth 100000 in
theorem Rng.of_only {lo hi g : Nat} {w w' : World} (h : Only g w w') (h1 : lo ≤ g) (h2 : g < hi) : Rng lo hi w w' :=
  ⟨h.os, h.tape, h.output, h.size, fun k hk hn => h.block k hk (fun e => by injection e with e; subst e; exact hn ⟨h1, h2⟩)⟩

set_option maxRecDepth 100000 in
theorem Rng.trans {lo hi : Nat} {a b c : World} (h : Rng lo hi a b) (k : Rng lo hi b c) : Rng lo hi a c :=
  ⟨k.os.trans h.os, k.tape.trans h.tape, k.output.trans h.output, Nat.le_trans h.size k.size, fun i hi hne => (k.block i (Nat.lt_of_lt_of_le hi h.size) hne).trans (h.block i hi hne)⟩

set_option maxRecDepth 100000 in
theorem Rng.ext {lo hi : Nat} {W w w' : World} (h : Ext W w) (hg : Rng lo hi w w') (hb : W.heap.size ≤ lo) : Ext W w' :=
  ⟨hg.os.trans h.os, hg.tape.trans h.tape, hg.output.trans h.output, Nat.le_trans h.size hg.size, fun k hk => (hg.block k (Nat.lt_of_lt_of_le hk h.size) (by omega)).trans (Below.block h k hk)⟩

set_option maxRecDepth 100000 in
theorem Rng.keep {lo hi : Nat} {w w' : World} (h : Rng lo hi w w') {p : Addr} (hp : p.block < lo ∨ hi ≤ p.block) {v : Value} (hc : w.cell? p = some v) : w'.cell? p = some v :=
  (World.cell?_of_block (w := w) (h.block p.block (World.block_lt_of_cell? w p hc) (by omega))).trans hc

/-- v reads as xs, in blocks below B. -/
def RdB (w : World) (B : Nat) (v : Value) (xs : List Int) : Prop := ∃ a c, v = .slice a xs.length c ∧ RdI w a xs ∧ ∀ b off, a = some ⟨b, off, none⟩ → xs ≠ [] → b < B

set_option maxRecDepth 100000 in
theorem FrI.rdB {w : World} {B : Nat} {v : Value} {xs : List Int} (h : FrI w B v xs) : RdB w w.heap.size v xs := by
  obtain ⟨a, c, hv, _, hR, hb⟩ := h
  exact ⟨a, c, hv, hR, fun b off ha hne => (hb b off ha hne).2⟩

set_option maxRecDepth 100000 in
theorem RdB.ext {w w' : World} {B : Nat} {v : Value} {xs : List Int} (h : RdB w B v xs) (hw : Ext w w') : RdB w' B v xs := by
  obtain ⟨a, c, hv, hR, hb⟩ := h
  exact ⟨a, c, hv, hR.ext hw, hb⟩

set_option maxRecDepth 100000 in
theorem RdB.only {w w' : World} {B g : Nat} {v : Value} {xs : List Int} (h : RdB w B v xs) (hg : B ≤ g) (hw : Only g w w') : RdB w' B v xs := by
  obtain ⟨a, c, hv, hR, hb⟩ := h
  by_cases hne : xs = []
  · subst hne; exact ⟨a, c, hv, RdI.nil _ _, hb⟩
  · exact ⟨a, c, hv, hw.rdI hR (fun b off ha => by have := hb b off ha hne; omega), hb⟩

set_option maxRecDepth 100000 in
theorem OwnI.only {w w' : World} {B g : Nat} {v : Value} {xs : List Int} (h : OwnI w B v xs) (hg : g < B) (hw : Only g w w') : OwnI w' B v xs := by
  obtain ⟨h1, h2⟩ := h
  refine ⟨h1, ?_⟩
  rcases h2 with h2 | ⟨g', cap, cur, hv, hg', hh, r⟩
  · exact .inl h2
  · refine .inr ⟨g', cap, cur, hv, hg', ?_, r⟩
    have hlt : g' < w.heap.size := by
      rcases Nat.lt_or_ge g' w.heap.size with hlt | hge
      · exact hlt
      · rw [Array.getElem?_eq_none hge] at hh; cases hh
    rw [hw.block g' hlt (fun e => by injection e; omega)]; exact hh

set_option maxRecDepth 100000 in
theorem RdB.rng {w w' : World} {B lo hi : Nat} {v : Value} {xs : List Int} (h : RdB w B v xs) (hg : B ≤ lo) (hw : Rng lo hi w w') : RdB w' B v xs := by
  obtain ⟨a, c, hv, hR, hb⟩ := h
  refine ⟨a, c, hv, fun hx => ?_, hb⟩
  obtain ⟨b, off, rfl, hc⟩ := hR hx
  exact ⟨b, off, rfl, fun j x hj => hw.keep (.inl (by have := hb b off rfl hx; show b < lo; omega)) (hc j x hj)⟩

set_option maxRecDepth 100000 in
theorem OwnI.rng {w w' : World} {B lo hi : Nat} {v : Value} {xs : List Int} (h : OwnI w B v xs) (hg : hi ≤ B) (hw : Rng lo hi w w') : OwnI w' B v xs := by
  obtain ⟨h1, h2⟩ := h
  refine ⟨h1, ?_⟩
  rcases h2 with h2 | ⟨g', cap, cur, hv, hg', hh, r⟩
  · exact .inl h2
  · refine .inr ⟨g', cap, cur, hv, hg', ?_, r⟩
    have hlt : g' < w.heap.size := by
      rcases Nat.lt_or_ge g' w.heap.size with hlt | hge
      · exact hlt
      · rw [Array.getElem?_eq_none hge] at hh; cases hh
    rw [hw.block g' hlt (by omega)]; exact hh

/-- v holds n marks from k0 on. -/
def Marks (w : World) (v : Value) (n : Nat) (k0 : Int) : Prop := ∃ a c, v = .slice a n c ∧ RdI w a ((List.range n).map fun j : Nat => k0 + (j : Int))

set_option maxRecDepth 100000 in
theorem Marks.ext {w w' : World} {v : Value} {n : Nat} {k0 : Int} (h : Marks w v n k0) (hw : Ext w w') : Marks w' v n k0 := by
  obtain ⟨a, c, hv, hR⟩ := h
  exact ⟨a, c, hv, hR.ext hw⟩

open Go.ChangeShapes Go.WideShapes Go.ChangeAt Go.RowKit Go.Joins Go.Deep

section
variable {H : Type} {enc : TypeId × Value → H} {P : Program} {w : World} {base : Nat} {spare : Nat → Bool} {held : Bool}
set_option maxRecDepth 100000 in
theorem open_slice_fields {t e : TypeId} {fs : Array Field} {fuel : Nat} {cs : List Value} {x : DataW H × List MemPlace} (ht : P.underlying t = some (.slice e)) (he : P.underlying e = some (.struct fs))
    (hone : oneCellFields P fs = true) (hC : P.cellsOf e = fs.size) (h : DataW.trod enc P w base spare held fuel t cs = some x) :
    (cs = [.slice none 0 0] ∧ x = (.nil, [])) ∨
    ∃ (a : Addr) (len cap m : Nat), cs = [.slice (some a) len cap] ∧ base ≤ a.block ∧ len ≤ cap ∧ cap ≤ maxLen ∧ len ≤ m ∧
      ∀ i, i < m → ∃ (ys : List (DataW H × List MemPlace)) (n : Nat), ys.length = fs.size ∧
        ∀ (j : Nat) (f : Field), fs[j]? = some f → ∃ (v : Value) (y : DataW H × List MemPlace), w.cell? (a.add (i * fs.size + j)) = some v ∧ ys[j]? = some y ∧ DataW.trod enc P w base spare held n f.type [v] = some y := by
  rcases open_slice ht h with h0 | ⟨a, len, cap, m, n, D, Pl, hcs, hb, hl, hm, hmm, hx, hi⟩
  · exact .inl h0
  · refine .inr ⟨a, len, cap, m, hcs, hb, hl, hm, by rw [hmm]; split <;> omega, fun i him => ?_⟩
    obtain ⟨cs', hc, ht'⟩ := hi i him
    rw [hC] at hc
    obtain ⟨ys, n', hn', hy, hlen, hyl, hf⟩ := DataW.trod_struct he ht'
    obtain ⟨_, hcl, hat⟩ := World.cells?_some hc
    refine ⟨ys, n', hyl, fun j f hj => ?_⟩
    obtain ⟨ho, hk⟩ := hone_of hone j f hj
    have hjl : j < fs.size := (Array.getElem?_eq_some_iff.1 hj).1
    have hcell := hat j hjl
    have hv : cs'[j]? = some (cs'[j]'(by omega)) := List.getElem?_eq_getElem (by omega)
    have h1 := hf j f hj
    rw [ho, hk] at h1
    have hone' : (cs'.drop j).take 1 = [cs'[j]'(by omega)] := by
      rw [List.drop_eq_getElem_cons (by omega)]
      rfl
    rw [hone'] at h1
    have hys : ys[j]? = some (ys[j]'(by omega)) := List.getElem?_eq_getElem (by omega)
    refine ⟨_, _, ?_, hys, h1.trans hys⟩
    rw [← Go.Deep.add_add, hcell, hv]
end

set_option maxRecDepth 100000 in
/-- A list of n elements with a property each. -/
theorem list_of {α : Type} (p : Nat → α → Prop) : ∀ n : Nat, (∀ i, i < n → ∃ x, p i x) → ∃ xs : List α, xs.length = n ∧ ∀ i x, xs[i]? = some x → p i x
  | 0, _ => ⟨[], rfl, fun i x h => by simp at h⟩
  | n + 1, h => by
    obtain ⟨xs, hl, hx⟩ := list_of p n (fun i hi => h i (by omega))
    obtain ⟨y, hy⟩ := h n (by omega)
    refine ⟨xs ++ [y], by simp [hl], fun i x hi => ?_⟩
    by_cases e : i < n
    · rw [List.getElem?_append_left (by omega)] at hi
      exact hx i x hi
    · by_cases e2 : i = n
      · subst e2
        rw [List.getElem?_append_right (by omega), hl] at hi
        simp at hi
        subst hi
        exact hy
      · rw [List.getElem?_append_right (by omega), List.getElem?_eq_none (by simp; omega)] at hi
        cases hi

set_option maxRecDepth 100000 in
theorem addr_add_none {b off : Nat} (k : Nat) : (Addr.add ⟨b, off, none⟩ k) = ⟨b, off + k, none⟩ := by
  unfold Addr.add
  split <;> simp_all

set_option maxRecDepth 100000 in
theorem own : ownKnob Tryz.prog.godebug = Option.none := by kernel_rfl
set_option maxRecDepth 100000 in
theorem laidOut : laidOutB Tryz.prog = true := by kernel_rfl

set_option maxRecDepth 100000 in
theorem in_impl (n lo hi : Int) (w : World) :
    Calls Tryz.prog 26 #[.int .i64 n, .int .i64 lo, .int .i64 hi] w fun e w' => e = .returned (.bool (inR n lo hi)) ∧ Ext w w' := by
  go_enter Tryz.func26, Tryz.ntmps26
  by_cases h1 : lo ≤ n <;> by_cases h2 : n ≤ hi
  all_goals
    go_wp2
    go_ret
    exact ⟨by simp [inR, h1, h2], Ext.refl _⟩

/-- The place of the first element with a property, or -1. -/
def findI {α : Type} (p : α → Bool) (xs : List α) : Int := match xs.findIdx? p with | some i => (i : Int) | none => -1

set_option maxRecDepth 100000 in
theorem findI_none {α : Type} {p : α → Bool} {xs : List α} (h : xs.all (fun x => !p x) = true) : findI p xs = -1 := by
  have : xs.findIdx? p = none := by rw [List.findIdx?_eq_none_iff]; intro x hx; have := List.all_eq_true.1 h x hx; simpa using this
  simp [findI, this]

set_option maxRecDepth 100000 in
theorem findI_some {α : Type} {p : α → Bool} {xs : List α} {k : Nat} {x : α} (hx : xs[k]? = some x) (h : (xs.take k).all (fun x => !p x) = true) (hp : p x = true) : findI p xs = (k : Int) := by
  have : xs.findIdx? p = some k := by
    rw [List.findIdx?_eq_some_iff_getElem]
    have hk := lt_of_at hx
    refine ⟨hk, ?_, fun j hj => ?_⟩
    · rw [List.getElem?_eq_getElem hk] at hx; simp at hx; rw [hx]; exact hp
    · have h1 := List.all_eq_true.1 h xs[j] (by rw [List.mem_take_iff_getElem]; exact ⟨j, by omega, rfl⟩)
      simpa using h1
  simp [findI, this]

set_option maxRecDepth 100000 in
theorem findI_nonneg {α : Type} (p : α → Bool) (xs : List α) : decide (0 ≤ findI p xs) = xs.any p := by
  unfold findI
  cases h : xs.findIdx? p with
  | none =>
    rw [List.findIdx?_eq_none_iff] at h
    have : xs.any p = false := by rw [List.any_eq_false]; intro x hx; simp [h x hx]
    simp [this]
  | some i =>
    rw [List.findIdx?_eq_some_iff_getElem] at h
    obtain ⟨hk, hp, _⟩ := h
    have : xs.any p = true := List.any_eq_true.2 ⟨xs[i], List.getElem_mem hk, hp⟩
    simp [this]

set_option maxRecDepth 100000 in
set_option maxHeartbeats 1000000 in
theorem indexI (w : World) (a : Option Addr) (c : Nat) (xs : List Int) (x : Int) (hR : RdI w a xs) (hl : xs.length ≤ 2000000) :
    Calls Tryz.prog 60 #[.slice a xs.length c, .int .i64 x] w fun e w' => e = .returned (.int .i64 (findI (fun y => x == y) xs)) ∧ Ext w w' := by
  go_enter Tryz.func60, Tryz.ntmps60
  go_wp2_with fail
  go_loopw [5, 8] (fun _ i wr => ∃ k : Nat, k ≤ xs.length ∧ i = .int .i64 k ∧ (xs.take k).all (fun y => !(x == y)) = true ∧ Ext w wr) (fun _ i _ => xs.length - (intOf i).toNat)
  case atStart => exact ⟨0, Nat.zero_le _, rfl, rfl, Ext.refl _⟩
  case round =>
    obtain ⟨k, hk, rfl, hall, hwr⟩ := hrel
    have HA := hide hall
    clear hall
    by_cases hlt : k < xs.length
    · obtain ⟨y, hy⟩ := at_of_lt hlt
      obtain ⟨b, off, rfl, c0⟩ := (hR.ext hwr).at_ hy
      have HY := hide hy
      clear hy
      cases hp : (x == y)
      all_goals go_wp2
      · exact ⟨⟨k + 1, by omega, by go_num, (all_take HY.out HA.out).trans (by simp [hp]), hwr⟩, by simp [intOf]; omega⟩
      · go_ret
        exact ⟨ret_int (findI_some HY.out HA.out hp).symm, hwr⟩
    · go_wp2
      go_ret
      exact ⟨ret_int (findI_none (all_whole (by omega) HA.out)).symm, hwr⟩

def hasI (xs : List Int) (x : Int) : Bool := xs.contains x

set_option maxRecDepth 100000 in
set_option maxHeartbeats 1000000 in
theorem containsI (w : World) (B : Nat) (v : Value) (xs : List Int) (x : Int) (hV : RdB w B v xs) (hl : xs.length ≤ 2000000) :
    Calls Tryz.prog 43 #[v, .int .i64 x] w fun e w' => e = .returned (.bool (hasI xs x)) ∧ Ext w w' := by
  obtain ⟨a, c, rfl, hR, _⟩ := hV
  go_enter Tryz.func43, Tryz.ntmps43
  go_wp2_with (go_at_call 60; refine (indexI _ _ _ _ _ hR hl).mono ?_; rintro e w1 ⟨rfl, hw1⟩)
  go_ret
  refine ⟨ret_bool ?_, hw1⟩
  have h := findI_nonneg (fun y => x == y) xs
  have e : xs.any (fun y => x == y) = xs.contains x := by
    rw [Bool.eq_iff_iff, List.any_eq_true, List.contains_iff_mem]
    constructor
    · rintro ⟨y, hy, he⟩
      have : x = y := by simpa using he
      subst this; exact hy
    · intro hx; exact ⟨x, hx, by simp⟩
  unfold hasI
  rw [← e, ← h]

def rkOk (m : Int) (xs : List Int) : Bool := inR m 1 5 && (decide ((xs.length : Int) = m) && (xs.all (fun x => inR x 0 (m - 1)) && decide xs.Nodup))
def preOk (m : Int) (xs : List Int) (k : Nat) : Prop := (xs.take k).all (fun x => inR x 0 (m - 1)) = true ∧ (xs.take k).Nodup
set_option maxRecDepth 100000 in
theorem pre_zero (m : Int) (xs : List Int) : preOk m xs 0 := by simp [preOk]
set_option maxRecDepth 100000 in
theorem pre_succ {m : Int} {xs : List Int} {k : Nat} {x : Int} (hx : xs[k]? = some x) (h : preOk m xs k) (h1 : inR x 0 (m - 1) = true) (h2 : x ∉ xs.take k) : preOk m xs (k + 1) := by
  refine ⟨(all_take hx h.1).trans h1, ?_⟩
  rw [take_at hx, List.nodup_append]
  refine ⟨h.2, by simp, fun a ha b hb => ?_⟩
  simp at hb
  subst hb
  rintro rfl
  exact h2 ha
set_option maxRecDepth 100000 in
theorem rk_false1 {m : Int} {xs : List Int} {k : Nat} {x : Int} (hx : xs[k]? = some x) (h1 : inR x 0 (m - 1) = false) : rkOk m xs = false := by
  have : xs.all (fun x => inR x 0 (m - 1)) = false := all_false hx h1
  simp [rkOk, this]
set_option maxRecDepth 100000 in
theorem rk_false2 {m : Int} {xs : List Int} {k : Nat} {x : Int} (hx : xs[k]? = some x) (h1 : x ∈ xs.take k) : rkOk m xs = false := by
  have : ¬ xs.Nodup := fun hn => by
    have h2 : (xs.take (k + 1)).Nodup := hn.sublist (List.take_sublist _ _)
    rw [take_at hx, List.nodup_append] at h2
    exact h2.2.2 x h1 x (by simp) rfl
  simp [rkOk, this]
set_option maxRecDepth 100000 in
theorem rk_true {m : Int} {xs : List Int} (h1 : inR m 1 5 = true) (h2 : (xs.length : Int) = m) (h : preOk m xs xs.length) : rkOk m xs = true := by
  unfold preOk at h
  rw [List.take_length] at h
  simp only [rkOk, h1, h.1, decide_eq_true h2, decide_eq_true h.2]; rfl

set_option maxRecDepth 100000 in
theorem info_bool : (Tryz.prog.info? 4).map (fun i => (i.zero, i.size, i.bytes)) = some (some (.bool false), 1, 1) := by kernel_rfl
set_option maxRecDepth 100000 in
theorem made_bool (n j : Nat) (hj : j < n) : (madeCells (Value.bool false).cells n).getD j undef = .bool false := by
  have h := toList_madeCells_one (.bool false) n
  have h2 : (madeCells #[Value.bool false] n).toList[j]? = some (.bool false) := by rw [h]; simp [hj]
  show (madeCells #[Value.bool false] n).getD j undef = _
  rw [Array.getElem?_toList] at h2
  simp [h2]

/-- Seen among the first k. -/
def seenB (xs : List Int) (k j : Nat) : Value := .bool (hasI (xs.take k) (j : Int))

set_option maxRecDepth 100000 in
theorem RdI.take {w : World} {a : Option Addr} {xs : List Int} (h : RdI w a xs) (k : Nat) : RdI w a (xs.take k) := fun hne => by
  have hx : xs ≠ [] := by rintro rfl; simp at hne
  obtain ⟨b, off, ha, hc⟩ := h hx
  refine ⟨b, off, ha, fun j x hj => hc j x ?_⟩
  rw [List.getElem?_take] at hj
  split at hj
  · exact hj
  · cases hj
set_option maxRecDepth 100000 in
theorem RdI.rdB {w : World} {a : Option Addr} {xs : List Int} (h : RdI w a xs) (n c : Nat) (hn : xs.length = n) : RdB w w.heap.size (.slice a n c) xs := by
  subst hn
  refine ⟨a, c, rfl, h, fun b off ha hne => ?_⟩
  obtain ⟨b', off', ha', hc⟩ := h hne
  rw [ha] at ha'
  injection ha' with ha'
  injection ha' with hb _ _
  subst hb
  obtain ⟨x, hx⟩ := at_of_lt (List.length_pos_iff.2 hne)
  exact World.block_lt_of_cell? w _ (hc 0 x hx)

set_option maxRecDepth 100000 in
set_option maxHeartbeats 2000000 in
theorem rank_impl_n (w : World) (n : Nat) (a : Option Addr) (c : Nat) (xs : List Int) (hR : RdI w a xs) (HN : Hid (xs.length = n)) (hc : n ≤ c) (h1 : inR (n : Int) 1 5 = true) :
    Calls Tryz.prog 27 #[.int .i64 n, .slice a n c] w fun e w' => e = .returned (.bool (rkOk n xs)) ∧ Ext w w' := by
  obtain ⟨m1, m5⟩ := inR_iff.1 h1
  go_enter Tryz.func27, Tryz.ntmps27
  go_wp2_with (go_at_call 26; refine (in_impl _ _ _ _).mono ?_; rintro e w1 ⟨rfl, hw1⟩)
  obtain ⟨W0, rfl⟩ : ∃ W0 : World, W0 = w1 := ⟨_, rfl⟩
  go_loopw [5, 6, 18] (fun _ _ i wr => ∃ k : Nat, k ≤ n ∧ i = .int .i64 k ∧ Hid (preOk n xs k) ∧ Ext W0 wr) (fun _ _ i _ => n - (intOf i).toNat)
  case atStart => exact ⟨0, Nat.zero_le _, rfl, pre_zero _ _, Ext.refl _⟩
  case round =>
    obtain ⟨k, hk, rfl, hpre, hwr⟩ := hrel
    by_cases hlt : k < n
    · obtain ⟨x, hx⟩ := at_of_lt (xs := xs) (k := k) (by have := HN.out; omega)
      obtain ⟨b, off, rfl, c0⟩ := (hR.ext (hw1.trans hwr)).at_ hx
      have hRB := hide (fun (w' : World) (hw' : Ext w w') => ((hR.ext hw').take k).rdB k c (by rw [List.length_take, HN.out]; omega))
      have HX := hide hx
      clear hx
      have htl := hide (show (xs.take k).length ≤ 2000000 by rw [List.length_take]; omega)
      cases hin : inR x 0 ((n : Int) - 1)
      · go_wp2_with (go_at_call 26; refine (in_impl _ _ _ _).mono ?_; rintro e w1 ⟨rfl, hw1⟩)
        go_ret
        exact ⟨ret_bool (rk_false1 HX.out hin).symm, (by repeat (first | exact Ext.refl _ | assumption | refine Ext.alloc ?_ _ | refine Ext.drew ?_ | refine Ext.trans ?_ (by assumption)))⟩
      · cases hs : hasI (xs.take k) x
        · go_wp2_with (first | (go_at_call 26; refine (in_impl _ _ _ _).mono ?_; rintro e w1 ⟨rfl, hw1⟩; have c0 := Ext.keep (w' := w1) (by repeat (first | exact Ext.refl _ | assumption | refine Ext.alloc ?_ _ | refine Ext.drew ?_ | refine Ext.trans ?_ (by assumption))) c0) | (go_at_call 43; refine (containsI _ _ _ _ _ (hRB.out _ (by repeat (first | exact Ext.refl _ | assumption | refine Ext.alloc ?_ _ | refine Ext.drew ?_ | refine Ext.trans ?_ (by assumption)))) htl.out).mono ?_; rintro e w1 ⟨rfl, hw1⟩))
          exact ⟨⟨k + 1, by omega, by go_num, pre_succ HX.out hpre.out hin (by simpa [hasI] using hs), (by repeat (first | exact Ext.refl _ | assumption | refine Ext.alloc ?_ _ | refine Ext.drew ?_ | refine Ext.trans ?_ (by assumption)))⟩, by simp [intOf]; omega⟩
        · go_wp2_with (first | (go_at_call 26; refine (in_impl _ _ _ _).mono ?_; rintro e w1 ⟨rfl, hw1⟩; have c0 := Ext.keep (w' := w1) (by repeat (first | exact Ext.refl _ | assumption | refine Ext.alloc ?_ _ | refine Ext.drew ?_ | refine Ext.trans ?_ (by assumption))) c0) | (go_at_call 43; refine (containsI _ _ _ _ _ (hRB.out _ (by repeat (first | exact Ext.refl _ | assumption | refine Ext.alloc ?_ _ | refine Ext.drew ?_ | refine Ext.trans ?_ (by assumption)))) htl.out).mono ?_; rintro e w1 ⟨rfl, hw1⟩))
          go_ret
          exact ⟨ret_bool (rk_false2 HX.out (by simpa [hasI] using hs)).symm, (by repeat (first | exact Ext.refl _ | assumption | refine Ext.alloc ?_ _ | refine Ext.drew ?_ | refine Ext.trans ?_ (by assumption)))⟩
    · obtain rfl : k = n := by omega
      go_wp2
      go_ret
      refine ⟨ret_bool ?_, (by repeat (first | exact Ext.refl _ | assumption | refine Ext.alloc ?_ _ | refine Ext.drew ?_ | refine Ext.trans ?_ (by assumption)))⟩
      have h3 := hpre.out
      rw [← HN.out] at h3 h1 ⊢
      exact (rk_true h1 rfl h3).symm

set_option maxRecDepth 100000 in
set_option maxHeartbeats 2000000 in
theorem rank_impl (w : World) (m : Int) (a : Option Addr) (c : Nat) (xs : List Int) (hR : RdI w a xs) (hc : xs.length ≤ c) :
    Calls Tryz.prog 27 #[.int .i64 m, .slice a xs.length c] w fun e w' => e = .returned (.bool (rkOk m xs)) ∧ Ext w w' := by
  cases h1 : inR m 1 5
  · go_enter Tryz.func27, Tryz.ntmps27
    go_wp2_with (go_at_call 26; refine (in_impl _ _ _ _).mono ?_; rintro e w1 ⟨rfl, hw1⟩)
    go_ret
    exact ⟨ret_bool (by simp [rkOk, h1]), hw1⟩
  by_cases hlen : (xs.length : Int) = m
  · subst hlen
    exact rank_impl_n w xs.length a c xs hR rfl hc h1
  · have hne : ((xs.length : Int) != m) = true := by simpa using hlen
    go_enter Tryz.func27, Tryz.ntmps27
    go_wp2_with (go_at_call 26; refine (in_impl _ _ _ _).mono ?_; rintro e w1 ⟨rfl, hw1⟩)
    go_ret
    exact ⟨ret_bool (by simp [rkOk, hlen]), hw1⟩

end Go.Proofs.YtfmeklgdaabooaaGreatDoor
