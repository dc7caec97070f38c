/- Words on memory: slices that read as lists, kept as memory is added; small laws on lists and integers for the walks. Memory: blocks that may be written, lists of the call's own, what has turned and what has not. What the statement's reading of its arguments says of memory. -/
import Derived.Test.YthiojkpoeejkaaaCa0
import Derived.WalkKit
import Derived.WalkSpells
import Derived.WalkLawsBesides
import Derived.Deep.LoopGhost
import Derived.Test.YthiojkpoeejkaaaRows
import Derived.ProofKit
import Derived.OpenShut
import Derived.ShutString
import Derived.ChangeOld
import Derived.Below
import Derived.Deep.Slices
import Derived.Deep.Fields
import Derived.ChangeSame
import Derived.Lib.SmallJoins
namespace Go.Proofs.Ythiojkpoeejkaaa
open Go.RowKit

set_option maxRecDepth 100000 in
/-- Kept from the walk's eyes. -/
theorem hide {p : Prop} (h : p) : Hid p := h

/-- A call of function K enters it ('Try.call<K>'). -/
def Enters (P : Program) (K : Nat) : Prop := ∀ (args : Array Value) (w : World), (callFunc K args).run P w = .ok (.enter K args) w

/-- The slice address a reads as the integers xs. -/
def RdI (w : World) (a : Option Addr) (xs : List Int) : Prop :=
  xs ≠ [] → ∃ b off, a = some ⟨b, off, none⟩ ∧ ∀ (j : Nat) (x : Int), xs[j]? = some x → w.cell? ⟨b, off + j, none⟩ = some (.int .i64 x)
/-- .. as structs of two integers. -/
def RdP (w : World) (a : Option Addr) (xs : List (Int × Int)) : Prop :=
  xs ≠ [] → ∃ b off, a = some ⟨b, off, none⟩ ∧ ∀ (j : Nat) (x : Int × Int), xs[j]? = some x → w.cell? ⟨b, off + j * 2, none⟩ = some (.int .i64 x.1) ∧ w.cell? ⟨b, off + j * 2 + 1, none⟩ = some (.int .i64 x.2)

set_option maxRecDepth 100000 in
theorem Ext.keep {w w' : World} (h : Ext w w') {p : Addr} {v : Value} (hp : w.cell? p = some v) : w'.cell? p = some v := (h.cellS p (by rw [hp]; rfl)).trans hp

set_option maxRecDepth 100000 in
theorem RdI.ext {w w' : World} {a : Option Addr} {xs : List Int} (h : RdI w a xs) (hw : Ext w w') : RdI w' a xs := fun hne => by
  obtain ⟨b, off, ha, hc⟩ := h hne
  exact ⟨b, off, ha, fun j x hx => hw.keep (hc j x hx)⟩
set_option maxRecDepth 100000 in
theorem RdP.ext {w w' : World} {a : Option Addr} {xs : List (Int × Int)} (h : RdP w a xs) (hw : Ext w w') : RdP w' a xs := fun hne => by
  obtain ⟨b, off, ha, hc⟩ := h hne
  exact ⟨b, off, ha, fun j x hx => ⟨hw.keep (hc j x hx).1, hw.keep (hc j x hx).2⟩⟩
set_option maxRecDepth 100000 in
theorem RdI.nil (w : World) (a : Option Addr) : RdI w a [] := fun h => absurd rfl h
set_option maxRecDepth 100000 in
theorem RdP.nil (w : World) (a : Option Addr) : RdP w a [] := fun h => absurd rfl h

set_option maxRecDepth 100000 in
theorem ne_of_at {α : Type} {xs : List α} {k : Nat} {x : α} (h : xs[k]? = some x) : xs ≠ [] := by rintro rfl; simp at h
set_option maxRecDepth 100000 in
theorem at_of_lt {α : Type} {xs : List α} {k : Nat} (h : k < xs.length) : ∃ x, xs[k]? = some x := ⟨xs[k], List.getElem?_eq_getElem h⟩
set_option maxRecDepth 100000 in
theorem lt_of_at {α : Type} {xs : List α} {k : Nat} {x : α} (h : xs[k]? = some x) : k < xs.length := (List.getElem?_eq_some_iff.1 h).1
set_option maxRecDepth 100000 in
theorem take_at {α : Type} {xs : List α} {k : Nat} {x : α} (h : xs[k]? = some x) : xs.take (k + 1) = xs.take k ++ [x] := by
  rw [List.take_add_one, h]; rfl
set_option maxRecDepth 100000 in
theorem RdI.at_ {w : World} {a : Option Addr} {xs : List Int} (h : RdI w a xs) {k : Nat} {x : Int} (hx : xs[k]? = some x) :
    ∃ b off, a = some ⟨b, off, none⟩ ∧ w.cell? ⟨b, off + k, none⟩ = some (.int .i64 x) := by
  obtain ⟨b, off, ha, hc⟩ := h (ne_of_at hx)
  exact ⟨b, off, ha, hc k x hx⟩
set_option maxRecDepth 100000 in
theorem RdP.at_ {w : World} {a : Option Addr} {xs : List (Int × Int)} (h : RdP w a xs) {k : Nat} {x : Int × Int} (hx : xs[k]? = some x) :
    ∃ b off, a = some ⟨b, off, none⟩ ∧ w.cell? ⟨b, off + k * 2, none⟩ = some (.int .i64 x.1) ∧ w.cell? ⟨b, off + k * 2 + 1, none⟩ = some (.int .i64 x.2) := by
  obtain ⟨b, off, ha, hc⟩ := h (ne_of_at hx)
  exact ⟨b, off, ha, hc k x hx⟩

set_option maxRecDepth 100000 in
/-- The cells of a block just made. -/
theorem new0 (w : World) (v : Value) (vs : List Value) (t : TypeId) : (w.alloc (.cells ⟨v :: vs⟩ t)).cell? ⟨w.heap.size, 0, none⟩ = some v := by
  rw [World.cell?_alloc_at _ _ _ _ rfl]; rfl
set_option maxRecDepth 100000 in
theorem new1 (w : World) (v u : Value) (vs : List Value) (t : TypeId) : (w.alloc (.cells ⟨v :: u :: vs⟩ t)).cell? ⟨w.heap.size, 1, none⟩ = some u := by
  rw [World.cell?_alloc_at _ _ _ _ rfl]; rfl
set_option maxRecDepth 100000 in
theorem Ext.new (w : World) (o : Obj) : Ext w (w.alloc o) := (Ext.refl w).alloc o

set_option maxRecDepth 100000 in
theorem Ext.a {w w' : World} {o : Obj} (h : Ext (w.alloc o) w') : Ext w w' := (Ext.new w o).trans h
set_option maxRecDepth 100000 in
theorem Ext.d {w w' : World} (h : Ext w.drew w') : Ext w w' := ((Ext.refl w).drew).trans h

set_option maxRecDepth 100000 in
/-- A cell that is there is as it was behind a new block. -/
@[simp, go_sem] theorem alloc_cellS (w : World) (a : Addr) (o : Obj) (h : (w.cell? a).isSome = true) : (w.alloc o).cell? a = w.cell? a := (Ext.new w o).cellS a h
set_option maxRecDepth 100000 in
@[simp, go_sem] theorem alloc_frozenS (w : World) (a : Addr) (o : Obj) (h : (w.cell? a).isSome = true) : (w.alloc o).frozen? a = w.frozen? a := (Ext.new w o).frozenS a h

set_option maxRecDepth 100000 in
@[simp, go_sem] theorem setCell_sameS (w : World) (p : Addr) (v : Value) (h : (w.cell? p).isSome = true) : (w.setCell p v).cell? p = some v := by
  obtain ⟨u, hu⟩ := Option.isSome_iff_exists.1 h
  exact World.cell?_setCell_same _ _ _ hu

/-- low ≤ n ≤ high. -/
def inR (n lo hi : Int) : Bool := decide (lo ≤ n) && decide (n ≤ hi)
set_option maxRecDepth 100000 in
theorem inR_iff {n lo hi : Int} : inR n lo hi = true ↔ lo ≤ n ∧ n ≤ hi := by simp [inR]
set_option maxRecDepth 100000 in
theorem inR_not {n lo hi : Int} : inR n lo hi = false ↔ n < lo ∨ hi < n := by
  rw [← Bool.not_eq_true, inR_iff]; omega
/-- The greatest set of sz candidates. -/
def topOf (sz : Int) : Int := 2 ^ sz.toNat - 1
set_option maxRecDepth 100000 in
theorem top_wrap {sz : Int} (h1 : 1 ≤ sz) (h6 : sz ≤ 6) : IntKind.i64.wrap (IntKind.i64.wrap (2 ^ sz.toNat) - 1) = topOf sz := by
  have : sz = 1 ∨ sz = 2 ∨ sz = 3 ∨ sz = 4 ∨ sz = 5 ∨ sz = 6 := by omega
  rcases this with rfl | rfl | rfl | rfl | rfl | rfl <;> decide
set_option maxRecDepth 100000 in
theorem top_wrap64 {sz : Int} (h1 : 1 ≤ sz) (h6 : sz ≤ 6) : wrap64 (wrap64 (2 ^ sz.toNat) - 1) = topOf sz := by
  have h := top_wrap h1 h6
  rwa [IntWalk.i64_left, IntWalk.i64_left] at h
set_option maxRecDepth 100000 in
theorem any_not {α : Type} (xs : List α) (f : α → Bool) : (xs.any fun x => !f x) = !xs.all f := by
  rw [List.not_all_eq_any_not]
set_option maxRecDepth 100000 in
theorem shl_wrap {sz : Int} (h1 : 0 ≤ sz) (h6 : sz ≤ 6) : IntKind.i64.wrap (2 ^ sz.toNat) = topOf sz + 1 := by
  have : sz = 0 ∨ sz = 1 ∨ sz = 2 ∨ sz = 3 ∨ sz = 4 ∨ sz = 5 ∨ sz = 6 := by omega
  rcases this with rfl | rfl | rfl | rfl | rfl | rfl | rfl <;> decide
set_option maxRecDepth 100000 in
theorem all_take {α : Type} {xs : List α} {f : α → Bool} {k : Nat} {x : α} (hx : xs[k]? = some x) (h : (xs.take k).all f = true) : (xs.take (k + 1)).all f = f x := by
  rw [take_at hx, List.all_append, h]; simp
set_option maxRecDepth 100000 in
theorem all_false {α : Type} {xs : List α} {f : α → Bool} {k : Nat} {x : α} (hx : xs[k]? = some x) (h : f x = false) : xs.all f = false := by
  rw [List.all_eq_false]; exact ⟨x, List.mem_of_getElem? hx, by simp [h]⟩
set_option maxRecDepth 100000 in
theorem all_whole {α : Type} {xs : List α} {f : α → Bool} {k : Nat} (hk : xs.length ≤ k) (h : (xs.take k).all f = true) : xs.all f = true := by
  rwa [List.take_of_length_le hk] at h
set_option maxRecDepth 100000 in
theorem ret_bool {a b : Bool} (h : a = b) : Ending.returned (.bool a) = .returned (.bool b) := by rw [h]
set_option maxRecDepth 100000 in
theorem ret_int {a b : Int} (h : a = b) : Ending.returned (.int .i64 a) = .returned (.int .i64 b) := by rw [h]

/-- A block of n cells that may be written. -/
structure BlkF (w : World) (g n : Nat) (f : Nat → Value) : Prop where
  lt : g < w.heap.size
  fr : ∀ o, w.frozen? ⟨g, o, none⟩ = false
  cell : ∀ o, o < n → w.cell? ⟨g, o, none⟩ = some (f o)

set_option maxRecDepth 100000 in
theorem BlkF.ext {w w' : World} {g n : Nat} {f : Nat → Value} (h : BlkF w g n f) (hw : Ext w w') : BlkF w' g n f :=
  ⟨Nat.lt_of_lt_of_le h.lt hw.size, fun o => (hw.frozen (p := ⟨g, o, none⟩) h.lt).trans (h.fr o), fun o ho => hw.keep (h.cell o ho)⟩

set_option maxRecDepth 100000 in
theorem BlkF.new (w : World) (cs : Array Value) (t : TypeId) : BlkF (w.alloc (.cells cs t)) w.heap.size cs.size (fun o => cs.getD o undef) :=
  ⟨by simp, fun o => World.frozen?_alloc_at _ _ _ _ rfl, fun o ho => by rw [World.cell?_alloc_at _ _ _ _ rfl]; simp [ho]⟩

set_option maxRecDepth 100000 in
theorem BlkF.set {w : World} {g n : Nat} {f : Nat → Value} (h : BlkF w g n f) (i : Nat) (hi : i < n) (v : Value) : BlkF (w.setCell ⟨g, i, none⟩ v) g n (fun o => if o = i then v else f o) := by
  refine ⟨by simpa [World.setCell] using h.lt, fun o => (World.frozen?_setCell _ _ _ _).trans (h.fr o), fun o ho => ?_⟩
  by_cases e : o = i
  · subst e; rw [World.cell?_setCell_same _ _ _ (h.cell o ho)]; simp
  · rw [World.cell?_setCell_other _ _ _ _ (by simp only [ne_eq, Addr.mk.injEq, not_and]; omega)]; simp [e, h.cell o ho]

set_option maxRecDepth 100000 in
theorem BlkF.far {w : World} {g n : Nat} {f : Nat → Value} (h : BlkF w g n f) {p : Addr} (hp : p.block ≠ g) (v : Value) : BlkF (w.setCell p v) g n f :=
  ⟨by simpa [World.setCell] using h.lt, fun o => (World.frozen?_setCell _ _ _ _).trans (h.fr o), fun o ho => (World.cell?_setCell_other _ _ _ _ (by rintro rfl; exact hp rfl)).trans (h.cell o ho)⟩

set_option maxRecDepth 100000 in
theorem run_make_rowN {P : Program} (t e : TypeId) (i : TypeInfo) (z : Value) (ht : P.underlying t = some (.slice e)) (hi : P.info? e = some i) (hz : i.zero = some z)
    (kl kc : IntKind) (n c : Nat) (hnc : n ≤ c) (hbytes : i.bytes * c ≤ 281474976710656) (h63 : c ≤ 9223372036854775807) (w : World) :
    (Instr.makeSlice t (.int kl (n : Int)) (.int kc (c : Int))).run P w = .ok (.slice (some ⟨w.heap.size, 0, none⟩) n c) (w.alloc (.cells (madeCells z.cells (c * i.size)) e)) := by
  have hb : (i.bytes : Int) * (c : Int) ≤ 281474976710656 := by
    have h : ((i.bytes * c : Nat) : Int) ≤ 281474976710656 := by omega
    rwa [Int.natCast_mul] at h
  have hr := run_make (P := P) w t e i z ht hi hz kl kc n c (by omega) (by omega) hb (by omega)
  simp only [Int.toNat_natCast] at hr
  exact hr

set_option maxRecDepth 100000 in
theorem take_ext {α : Type} {xs ys : List α} {k : Nat} {x y : α} (h : xs.take k = ys.take k) (hx : xs[k]? = some x) (hy : ys[k]? = some y) (e : x = y) : xs.take (k + 1) = ys.take (k + 1) := by
  rw [take_at hx, take_at hy, h, e]

set_option maxRecDepth 100000 in
theorem info_int : (Try.prog.info? 3).map (fun i => (i.zero, i.size, i.bytes)) = some (some (.int .i64 0), 1, 8) := by kernel_rfl

/-- v is a list of integers of the call's own, in a block from B on. -/
def OwnI (w : World) (B : Nat) (v : Value) (xs : List Int) : Prop := w.ownsRow B 3 1 v xs.length (xs.map (Value.int .i64))

set_option maxRecDepth 100000 in
theorem OwnI.nil (w : World) (B : Nat) : OwnI w B (.slice none 0 0) [] := World.ownsRow_nil _ _ _ _

set_option maxRecDepth 100000 in
theorem ownsRow_ext {w w' : World} {B : Nat} {e : TypeId} {size : Nat} {v : Value} {n : Nat} {xs : List Value} (h : w.ownsRow B e size v n xs) (hw : Ext w w') : w'.ownsRow B e size v n xs := by
  obtain ⟨h1, h2⟩ := h
  refine ⟨h1, ?_⟩
  rcases h2 with h2 | ⟨g, cap, cur, hv, hg, hh, r⟩
  · exact .inl h2
  · refine .inr ⟨g, cap, cur, hv, hg, ?_, r⟩
    have hlt : g < w.heap.size := by
      rcases Nat.lt_or_ge g w.heap.size with hlt | hge
      · exact hlt
      · rw [Array.getElem?_eq_none hge] at hh; cases hh
    rw [Below.block hw g hlt]; exact hh

set_option maxRecDepth 100000 in
theorem OwnI.ext {w w' : World} {B : Nat} {v : Value} {xs : List Int} (h : OwnI w B v xs) (hw : Ext w w') : OwnI w' B v xs := ownsRow_ext h hw

set_option maxRecDepth 100000 in
theorem ownsRow_base {w : World} {B B' : Nat} {e : TypeId} {size : Nat} {v : Value} {n : Nat} {xs : List Value} (h : w.ownsRow B e size v n xs) (hb : B' ≤ B) : w.ownsRow B' e size v n xs := by
  obtain ⟨h1, h2⟩ := h
  refine ⟨h1, ?_⟩
  rcases h2 with h2 | ⟨g, cap, cur, hv, hg, r⟩
  · exact .inl h2
  · exact .inr ⟨g, cap, cur, hv, Nat.le_trans hb hg, r⟩

set_option maxRecDepth 100000 in
theorem OwnI.made0 (w : World) : OwnI (w.alloc (.cells #[] 3)) w.heap.size (.slice (some ⟨w.heap.size, 0, none⟩) 0 0) [] :=
  ⟨rfl, .inr ⟨w.heap.size, 0, #[], rfl, Nat.le_refl _, heap_alloc_new _ _, Nat.le_refl _, by simp, rfl, rfl⟩⟩

set_option maxRecDepth 100000 in
theorem OwnI.base {w : World} {B B' : Nat} {v : Value} {xs : List Int} (h : OwnI w B v xs) (hb : B' ≤ B) : OwnI w B' v xs := ownsRow_base h hb

set_option maxRecDepth 100000 in
theorem ownsRow_block {w : World} {B : Nat} {e : TypeId} {size : Nat} {v : Value} {n : Nat} {xs : List Value} (h : w.ownsRow B e size v n xs) : ∀ k, v.ownBlock = some k → B ≤ k := fun k hk => (h.lt k hk).1

set_option maxRecDepth 100000 in
theorem Ext.grown {W w w' : World} {row : Option Nat} (h : Ext W w) (hg : w.grownBy w' row) (hr : ∀ k, row = some k → W.heap.size ≤ k) : Ext W w' := Below.grown h hg h.size hr

set_option maxRecDepth 100000 in
/-- What such a list is, as a value. -/
theorem OwnI.val {w : World} {B : Nat} {v : Value} {xs : List Int} (h : OwnI w B v xs) :
    ∃ a c, v = .slice a xs.length c ∧ xs.length ≤ c ∧ c ≤ maxLen ∧ RdI w a xs ∧ (xs ≠ [] → ∃ g, a = some ⟨g, 0, none⟩ ∧ B ≤ g ∧ BlkF w g xs.length (fun j => .int .i64 (xs.getD j 0))) := by
  obtain ⟨h1, h2⟩ := h
  rcases h2 with ⟨rfl, h2⟩ | ⟨g, cap, cur, rfl, hg, hh, hc, hm, hs, ht⟩
  · have : xs = [] := List.length_eq_zero_iff.1 h2
    subst this
    exact ⟨none, 0, rfl, Nat.le_refl _, by simp, RdI.nil _ _, fun h => absurd rfl h⟩
  · have hlt : g < w.heap.size := by
      rcases Nat.lt_or_ge g w.heap.size with hlt | hge
      · exact hlt
      · rw [Array.getElem?_eq_none hge] at hh; cases hh
    have hcell : ∀ (j : Nat) (x : Int), xs[j]? = some x → w.cell? ⟨g, j, none⟩ = some (.int .i64 x) := fun j x hx => by
      have hj := lt_of_at hx
      have h3 : (cur.toList.take (xs.length * 1))[j]? = some (.int .i64 x) := by rw [ht]; simp [hx]
      rw [List.getElem?_take, if_pos (by omega)] at h3
      simp only [World.cell?, hh]
      simpa using h3
    refine ⟨some ⟨g, 0, none⟩, cap, rfl, hc, hm, fun _ => ⟨g, 0, rfl, fun j x hx => by rw [Nat.zero_add]; exact hcell j x hx⟩, fun _ => ⟨g, rfl, hg, hlt, fun o => by simp [World.frozen?, hh], fun o ho => ?_⟩⟩
    obtain ⟨x, hx⟩ := at_of_lt ho
    rw [hcell o x hx]; simp [hx]

/-- v reads as the integers xs, in a block from B on. -/
def FrI (w : World) (B : Nat) (v : Value) (xs : List Int) : Prop := ∃ a c, v = .slice a xs.length c ∧ xs.length ≤ c ∧ RdI w a xs ∧ ∀ b off, a = some ⟨b, off, none⟩ → xs ≠ [] → B ≤ b ∧ b < w.heap.size

set_option maxRecDepth 100000 in
theorem OwnI.fr {w : World} {B : Nat} {v : Value} {xs : List Int} (h : OwnI w B v xs) : FrI w B v xs := by
  obtain ⟨a, c, hv, hc, _, hR, ho⟩ := h.val
  refine ⟨a, c, hv, hc, hR, fun b off ha hne => ?_⟩
  obtain ⟨g, hg, hB, hb⟩ := ho hne
  rw [hg] at ha
  injection ha with ha
  injection ha with ha
  subst ha
  exact ⟨hB, hb.lt⟩

set_option maxRecDepth 100000 in
theorem FrI.fr {w : World} {B : Nat} {v : Value} {xs : List Int} (h : FrI w B v xs) : FrI w B v xs := h

set_option maxRecDepth 100000 in
theorem FrI.ext {w w' : World} {B : Nat} {v : Value} {xs : List Int} (h : FrI w B v xs) (hw : Ext w w') : FrI w' B v xs := by
  obtain ⟨a, c, hv, hc, hR, hb⟩ := h
  exact ⟨a, c, hv, hc, hR.ext hw, fun b off ha hne => ⟨(hb b off ha hne).1, Nat.lt_of_lt_of_le (hb b off ha hne).2 hw.size⟩⟩

set_option maxRecDepth 100000 in
theorem FrI.base {w : World} {B B' : Nat} {v : Value} {xs : List Int} (h : FrI w B v xs) (hB : B' ≤ B) : FrI w B' v xs := by
  obtain ⟨a, c, hv, hc, hR, hb⟩ := h
  exact ⟨a, c, hv, hc, hR, fun b off ha hne => ⟨Nat.le_trans hB (hb b off ha hne).1, (hb b off ha hne).2⟩⟩

set_option maxRecDepth 100000 in
theorem FrI.nil (w : World) (B : Nat) (a : Option Addr) (c : Nat) : FrI w B (.slice a 0 c) [] := ⟨a, c, rfl, Nat.zero_le _, RdI.nil _ _, fun _ _ _ h => absurd rfl h⟩

set_option maxRecDepth 100000 in
theorem BlkF.frI {w : World} {g n B c : Nat} {f : Nat → Value} {xs : List Int} (hB : BlkF w g n f) (hn : xs.length = n) (hf : ∀ (j : Nat) (x : Int), xs[j]? = some x → f j = .int .i64 x) (hg : B ≤ g) (hc : n ≤ c) : FrI w B (.slice (some ⟨g, 0, none⟩) n c) xs := by
  subst hn
  refine ⟨some ⟨g, 0, none⟩, c, rfl, hc, fun _ => ⟨g, 0, rfl, fun j x hx => ?_⟩, fun b off ha _ => ?_⟩
  · rw [Nat.zero_add, hB.cell j (lt_of_at hx), hf j x hx]
  · injection ha with ha
    injection ha with ha
    subst ha
    exact ⟨hg, hB.lt⟩

set_option maxRecDepth 100000 in
theorem BlkF.congr {w : World} {g n : Nat} {f f' : Nat → Value} (h : BlkF w g n f) (hf : ∀ o, o < n → f o = f' o) : BlkF w g n f' := ⟨h.lt, h.fr, fun o ho => by rw [h.cell o ho, hf o ho]⟩

set_option maxRecDepth 100000 in
theorem made_int (n j : Nat) (hj : j < n) : (madeCells (Value.int .i64 0).cells n).getD j undef = .int .i64 0 := by
  have h := toList_madeCells_one (.int .i64 0) n
  have h2 : (madeCells #[Value.int .i64 0] n).toList[j]? = some (.int .i64 0) := by rw [h]; simp [hj]
  show (madeCells #[Value.int .i64 0] n).getD j undef = _
  rw [Array.getElem?_toList] at h2
  simp [h2]

set_option maxRecDepth 100000 in
theorem wpList_appI {ops : Array Oper} {rest : List Oper} {o : Oper} {a : Act} {Q : Exit → Act → World → Prop} (W0 w3 : World) (hgd : o.guard = none) (s x : Operand)
    (ho : o.op = .call { callee := .builtin .append, args := #[s, x], argTypes := #[29, 29] }) (v : Value) (xs : List Int) (y : Int) (hs : a.eval s = v) (hown : OwnI w3 W0.heap.size v xs) (hW : Ext W0 w3)
    (hx : a.eval x = .slice (some ⟨w3.heap.size, 0, none⟩) 1 1) (hlen : xs.length ≤ 2000000)
    (h : ∀ v' w', OwnI w' W0.heap.size v' (xs ++ [y]) → Ext W0 w' → wpList Try.prog ops Q rest (a.put o.dst v') w') : wpList Try.prog ops Q (o :: rest) a (w3.alloc (.cells #[.int .i64 y] 3)) := by
  obtain ⟨i0, hi, hz0, hz1, hz2⟩ := info_parts info_int
  have hW3 : Ext W0 (w3.alloc (.cells #[.int .i64 y] 3)) := hW.alloc _
  have hown3 := hown.ext (Ext.new w3 (.cells #[.int .i64 y] 3))
  refine wpList_append_own _ hgd s x 29 ho W0.heap.size 3 i0 (.int .i64 0) 1 8 Try.underlying29 hi hz0 hz1 hz2 rfl (by decide) v xs.length _ hs hown3 ⟨w3.heap.size, 0, none⟩ 1 1 [.int .i64 y] hx rfl ?_ ?_ ?_ ?_ hW3.size ?_
  · intro j u hj
    match j, hj with
    | 0, hj => simp at hj; subst hj; simp [Addr.add]
  · intro u hu; simp at hu; subst hu; rfl
  · unfold maxLen; omega
  · omega
  · intro v' w' h1 h2 _
    refine h v' w' ?_ (hW3.grown h2 (ownsRow_block hown3))
    unfold OwnI
    simpa using h1

set_option maxRecDepth 100000 in
theorem oper_no {P : Program} {o : Oper} {a : Act} {w : World} {K : World → Act → Prop} (h : o.wp P a w (fun a' w' => Exit.normal = .normal ∧ K w' a') (fun e a w => e = .normal ∧ K w a)) : o.wp P a w (fun a' w' => K w' a') NoExit := by
  unfold Oper.wp at *
  generalize (execOp a.eval o).run P w = r at *
  cases r with
  | ok n w' =>
    cases n <;> simp only [Oper.upon] at h ⊢
    case value u => exact h.2
    case skip => exact h.2
    case defer d => exact h.2
    case enter f args =>
      refine Calls.mono h fun e w'' he => ?_
      cases e with
      | returned u => exact he.2
      | panicked c => exact absurd he.1 (by simp)
      | outgrown => obtain ⟨_, _, h1, _⟩ := he; cases h1
    case row row args => exact Rows.mono h fun u w'' he => he.2
  | halt x w' => cases x <;> simp only [Oper.upon] at h ⊢ <;> first | exact h.elim | exact absurd h.1 (by simp)

set_option maxRecDepth 100000 in
/-- One integer appended inside a drawn region. -/
theorem oper_appI {o : Oper} {a : Act} {K : World → Act → Prop} (W0 w3 : World) (hgd : o.guard = none) (s x : Operand)
    (ho : o.op = .call { callee := .builtin .append, args := #[s, x], argTypes := #[29, 29] }) (v : Value) (xs : List Int) (y : Int) (gx : Nat) (hs : a.eval s = v) (hown : OwnI w3 W0.heap.size v xs) (hW : Ext W0 w3)
    (hx : a.eval x = .slice (some ⟨gx, 0, none⟩) 1 1) (hc : w3.cell? ⟨gx, 0, none⟩ = some (.int .i64 y)) (hlen : xs.length ≤ 2000000)
    (h : ∀ v' w', OwnI w' W0.heap.size v' (xs ++ [y]) → Ext W0 w' → K w' (a.put o.dst v')) : o.wp Try.prog a w3 (fun a' w' => K w' a') NoExit := by
  obtain ⟨i0, hi, hz0, hz1, hz2⟩ := info_parts info_int
  have h1 : wpList Try.prog #[] (fun e a w => e = .normal ∧ K w a) [o] a w3 := by
    refine wpList_append_own _ hgd s x 29 ho W0.heap.size 3 i0 (.int .i64 0) 1 8 Try.underlying29 hi hz0 hz1 hz2 rfl (by decide) v xs.length _ hs hown ⟨gx, 0, none⟩ 1 1 [.int .i64 y] hx rfl ?_ ?_ ?_ ?_ hW.size ?_
    · intro j u hj
      match j, hj with
      | 0, hj => simp at hj; subst hj; simpa [Addr.add] using hc
    · intro u hu; simp at hu; subst hu; rfl
    · unfold maxLen; omega
    · omega
    · intro v' w' h1 h2 _
      refine ⟨rfl, h v' w' ?_ (hW.grown h2 (ownsRow_block hown))⟩
      unfold OwnI
      simpa using h1
  unfold wpList at h1
  split at h1
  · rcases h1 with h1 | ⟨_, _, _, h1, _⟩
    · exact oper_no h1
    · cases h1
  · rename_i hw
    exact absurd (by simp [Region.wanted, hgd]) hw

/-- Only block g has turned (and memory is added). -/
def Only (g : Nat) (w w' : World) : Prop := w.grownBy w' (some g)

set_option maxRecDepth 100000 in
theorem Only.refl (g : Nat) (w : World) : Only g w w := ⟨rfl, rfl, rfl, Nat.le_refl _, fun _ _ _ => rfl⟩

set_option maxRecDepth 100000 in
theorem Only.trans {g : Nat} {a b c : World} (h : Only g a b) (k : Only g b c) : Only g a c :=
  ⟨k.os.trans h.os, k.tape.trans h.tape, k.output.trans h.output, Nat.le_trans h.size k.size, fun i hi hne => (k.block i (Nat.lt_of_lt_of_le hi h.size) hne).trans (h.block i hi hne)⟩

set_option maxRecDepth 100000 in
theorem Only.setCell {g : Nat} {a w : World} (h : Only g a w) (i : Nat) (v : Value) : Only g a (w.setCell ⟨g, i, none⟩ v) :=
  ⟨h.os, h.tape, h.output, by simpa [World.setCell] using h.size, fun k hk hne => (Below.heap_setCell w _ v k (by rintro rfl; exact hne rfl)).trans (h.block k hk hne)⟩

set_option maxRecDepth 100000 in
theorem Only.of_ext {g : Nat} {w w' : World} (h : Ext w w') : Only g w w' := ⟨h.os, h.tape, h.output, Below.size h, fun k hk _ => Below.block h k hk⟩

set_option maxRecDepth 100000 in
theorem Only.keep {g : Nat} {w w' : World} (h : Only g w w') {p : Addr} (hp : p.block ≠ g) {v : Value} (hc : w.cell? p = some v) : w'.cell? p = some v :=
  (World.cell?_of_block (w := w) (h.block p.block (World.block_lt_of_cell? w p hc) (fun e => hp (by injection e)))).trans hc

set_option maxRecDepth 100000 in
theorem Only.ext {g : Nat} {W w w' : World} (h : Ext W w) (hg : Only g w w') (hb : W.heap.size ≤ g) : Ext W w' := h.grown hg (fun k hk => by injection hk with hk; omega)

set_option maxRecDepth 100000 in
theorem Only.rdI {g : Nat} {w w' : World} (h : Only g w w') {a : Option Addr} {xs : List Int} (hr : RdI w a xs) (hne : ∀ b off, a = some ⟨b, off, none⟩ → b ≠ g) : RdI w' a xs := fun hx => by
  obtain ⟨b, off, rfl, hc⟩ := hr hx
  exact ⟨b, off, rfl, fun j x hj => h.keep (hne b off rfl) (hc j x hj)⟩

set_option maxRecDepth 100000 in
theorem Only.rdP {g : Nat} {w w' : World} (h : Only g w w') {a : Option Addr} {xs : List (Int × Int)} (hr : RdP w a xs) (hne : ∀ b off, a = some ⟨b, off, none⟩ → b ≠ g) : RdP w' a xs := fun hx => by
  obtain ⟨b, off, rfl, hc⟩ := hr hx
  exact ⟨b, off, rfl, fun j x hj => ⟨h.keep (hne b off rfl) (hc j x hj).1, h.keep (hne b off rfl) (hc j x hj).2⟩⟩

set_option maxRecDepth 100000 in
theorem Only.blk {g g' n : Nat} {f : Nat → Value} {w w' : World} (h : Only g w w') (hb : BlkF w g' n f) (hne : g' ≠ g) : BlkF w' g' n f :=
  ⟨Nat.lt_of_lt_of_le hb.lt h.size, fun o => (World.frozen?_of_block (w := w) (h.block g' hb.lt (fun e => hne (by injection e)))).trans (hb.fr o), fun o ho => h.keep (by exact hne) (hb.cell o ho)⟩

/-- Only blocks from lo on and below hi have turned (and memory is added). -/
structure Rng (lo hi : Nat) (w w' : World) : Prop where
  os : w'.os = w.os
  tape : w'.tape = w.tape
  output : w'.output = w.output
  size : w.heap.size ≤ w'.heap.size
  block : ∀ k, k < w.heap.size → ¬ (lo ≤ k ∧ k < hi) → w'.heap[k]? = w.heap[k]?

set_option maxRecDepth 100000 in
theorem Rng.of_ext {lo hi : Nat} {w w' : World} (h : Ext w w') : Rng lo hi w w' := ⟨h.os, h.tape, h.output, Below.size h, fun k hk _ => Below.block h k hk⟩

set_option maxRecDepth 100000 in
theorem Rng.of_only {lo hi g : Nat} {w w' : World} (h : Only g w w') (h1 : lo ≤ g) (h2 : g < hi) : Rng lo hi w w' :=
  ⟨h.os, h.tape, h.output, h.size, fun k hk hn => h.block k hk (fun e => by injection e with e; subst e; exact hn ⟨h1, h2⟩)⟩

set_option maxRecDepth 100000 in
theorem Rng.trans {lo hi : Nat} {a b c : World} (h : Rng lo hi a b) (k : Rng lo hi b c) : Rng lo hi a c :=
  ⟨k.os.trans h.os, k.tape.trans h.tape, k.output.trans h.output, Nat.le_trans h.size k.size, fun i hi hne => (k.block i (Nat.lt_of_lt_of_le hi h.size) hne).trans (h.block i hi hne)⟩

set_option maxRecDepth 100000 in
theorem Rng.ext {lo hi : Nat} {W w w' : World} (h : Ext W w) (hg : Rng lo hi w w') (hb : W.heap.size ≤ lo) : Ext W w' :=
  ⟨hg.os.trans h.os, hg.tape.trans h.tape, hg.output.trans h.output, Nat.le_trans h.size hg.size, fun k hk => (hg.block k (Nat.lt_of_lt_of_le hk h.size) (by omega)).trans (Below.block h k hk)⟩

set_option maxRecDepth 100000 in
theorem Rng.keep {lo hi : Nat} {w w' : World} (h : Rng lo hi w w') {p : Addr} (hp : p.block < lo ∨ hi ≤ p.block) {v : Value} (hc : w.cell? p = some v) : w'.cell? p = some v :=
  (World.cell?_of_block (w := w) (h.block p.block (World.block_lt_of_cell? w p hc) (by omega))).trans hc

/-- v reads as xs, in blocks below B. -/
def RdB (w : World) (B : Nat) (v : Value) (xs : List Int) : Prop := ∃ a c, v = .slice a xs.length c ∧ RdI w a xs ∧ ∀ b off, a = some ⟨b, off, none⟩ → xs ≠ [] → b < B

set_option maxRecDepth 100000 in
theorem FrI.rdB {w : World} {B : Nat} {v : Value} {xs : List Int} (h : FrI w B v xs) : RdB w w.heap.size v xs := by
  obtain ⟨a, c, hv, _, hR, hb⟩ := h
  exact ⟨a, c, hv, hR, fun b off ha hne => (hb b off ha hne).2⟩

set_option maxRecDepth 100000 in
theorem RdB.ext {w w' : World} {B : Nat} {v : Value} {xs : List Int} (h : RdB w B v xs) (hw : Ext w w') : RdB w' B v xs := by
  obtain ⟨a, c, hv, hR, hb⟩ := h
  exact ⟨a, c, hv, hR.ext hw, hb⟩

set_option maxRecDepth 100000 in
theorem RdB.only {w w' : World} {B g : Nat} {v : Value} {xs : List Int} (h : RdB w B v xs) (hg : B ≤ g) (hw : Only g w w') : RdB w' B v xs := by
  obtain ⟨a, c, hv, hR, hb⟩ := h
  by_cases hne : xs = []
  · subst hne; exact ⟨a, c, hv, RdI.nil _ _, hb⟩
  · exact ⟨a, c, hv, hw.rdI hR (fun b off ha => by have := hb b off ha hne; omega), hb⟩

set_option maxRecDepth 100000 in
theorem OwnI.only {w w' : World} {B g : Nat} {v : Value} {xs : List Int} (h : OwnI w B v xs) (hg : g < B) (hw : Only g w w') : OwnI w' B v xs := by
  obtain ⟨h1, h2⟩ := h
  refine ⟨h1, ?_⟩
  rcases h2 with h2 | ⟨g', cap, cur, hv, hg', hh, r⟩
  · exact .inl h2
  · refine .inr ⟨g', cap, cur, hv, hg', ?_, r⟩
    have hlt : g' < w.heap.size := by
      rcases Nat.lt_or_ge g' w.heap.size with hlt | hge
      · exact hlt
      · rw [Array.getElem?_eq_none hge] at hh; cases hh
    rw [hw.block g' hlt (fun e => by injection e; omega)]; exact hh

set_option maxRecDepth 100000 in
theorem RdB.rng {w w' : World} {B lo hi : Nat} {v : Value} {xs : List Int} (h : RdB w B v xs) (hg : B ≤ lo) (hw : Rng lo hi w w') : RdB w' B v xs := by
  obtain ⟨a, c, hv, hR, hb⟩ := h
  refine ⟨a, c, hv, fun hx => ?_, hb⟩
  obtain ⟨b, off, rfl, hc⟩ := hR hx
  exact ⟨b, off, rfl, fun j x hj => hw.keep (.inl (by have := hb b off rfl hx; show b < lo; omega)) (hc j x hj)⟩

set_option maxRecDepth 100000 in
theorem OwnI.rng {w w' : World} {B lo hi : Nat} {v : Value} {xs : List Int} (h : OwnI w B v xs) (hg : hi ≤ B) (hw : Rng lo hi w w') : OwnI w' B v xs := by
  obtain ⟨h1, h2⟩ := h
  refine ⟨h1, ?_⟩
  rcases h2 with h2 | ⟨g', cap, cur, hv, hg', hh, r⟩
  · exact .inl h2
  · refine .inr ⟨g', cap, cur, hv, hg', ?_, r⟩
    have hlt : g' < w.heap.size := by
      rcases Nat.lt_or_ge g' w.heap.size with hlt | hge
      · exact hlt
      · rw [Array.getElem?_eq_none hge] at hh; cases hh
    rw [hw.block g' hlt (by omega)]; exact hh

/-- v holds n marks from k0 on. -/
def Marks (w : World) (v : Value) (n : Nat) (k0 : Int) : Prop := ∃ a c, v = .slice a n c ∧ RdI w a ((List.range n).map fun j : Nat => k0 + (j : Int))

set_option maxRecDepth 100000 in
theorem Marks.ext {w w' : World} {v : Value} {n : Nat} {k0 : Int} (h : Marks w v n k0) (hw : Ext w w') : Marks w' v n k0 := by
  obtain ⟨a, c, hv, hR⟩ := h
  exact ⟨a, c, hv, hR.ext hw⟩

open Go.ChangeShapes Go.WideShapes Go.ChangeAt Go.RowKit Go.Joins Go.Deep

section
variable {H : Type} {enc : TypeId × Value → H} {P : Program} {w : World} {base : Nat} {spare : Nat → Bool} {held : Bool}
set_option maxRecDepth 100000 in
theorem open_slice_fields {t e : TypeId} {fs : Array Field} {fuel : Nat} {cs : List Value} {x : DataW H × List MemPlace} (ht : P.underlying t = some (.slice e)) (he : P.underlying e = some (.struct fs))
    (hone : oneCellFields P fs = true) (hC : P.cellsOf e = fs.size) (h : DataW.trod enc P w base spare held fuel t cs = some x) :
    (cs = [.slice none 0 0] ∧ x = (.nil, [])) ∨
    ∃ (a : Addr) (len cap m : Nat), cs = [.slice (some a) len cap] ∧ base ≤ a.block ∧ len ≤ cap ∧ cap ≤ maxLen ∧ len ≤ m ∧
      ∀ i, i < m → ∃ (ys : List (DataW H × List MemPlace)) (n : Nat), ys.length = fs.size ∧
        ∀ (j : Nat) (f : Field), fs[j]? = some f → ∃ (v : Value) (y : DataW H × List MemPlace), w.cell? (a.add (i * fs.size + j)) = some v ∧ ys[j]? = some y ∧ DataW.trod enc P w base spare held n f.type [v] = some y := by
  rcases open_slice ht h with h0 | ⟨a, len, cap, m, n, D, Pl, hcs, hb, hl, hm, hmm, hx, hi⟩
  · exact .inl h0
  · refine .inr ⟨a, len, cap, m, hcs, hb, hl, hm, by rw [hmm]; split <;> omega, fun i him => ?_⟩
    obtain ⟨cs', hc, ht'⟩ := hi i him
    rw [hC] at hc
    obtain ⟨ys, n', hn', hy, hlen, hyl, hf⟩ := DataW.trod_struct he ht'
    obtain ⟨_, hcl, hat⟩ := World.cells?_some hc
    refine ⟨ys, n', hyl, fun j f hj => ?_⟩
    obtain ⟨ho, hk⟩ := hone_of hone j f hj
    have hjl : j < fs.size := (Array.getElem?_eq_some_iff.1 hj).1
    have hcell := hat j hjl
    have hv : cs'[j]? = some (cs'[j]'(by omega)) := List.getElem?_eq_getElem (by omega)
    have h1 := hf j f hj
    rw [ho, hk] at h1
    have hone' : (cs'.drop j).take 1 = [cs'[j]'(by omega)] := by
      rw [List.drop_eq_getElem_cons (by omega)]
      rfl
    rw [hone'] at h1
    have hys : ys[j]? = some (ys[j]'(by omega)) := List.getElem?_eq_getElem (by omega)
    refine ⟨_, _, ?_, hys, h1.trans hys⟩
    rw [← Go.Deep.add_add, hcell, hv]
end

set_option maxRecDepth 100000 in
/-- A list of n elements with a property each. -/
theorem list_of {α : Type} (p : Nat → α → Prop) : ∀ n : Nat, (∀ i, i < n → ∃ x, p i x) → ∃ xs : List α, xs.length = n ∧ ∀ i x, xs[i]? = some x → p i x
  | 0, _ => ⟨[], rfl, fun i x h => by simp at h⟩
  | n + 1, h => by
    obtain ⟨xs, hl, hx⟩ := list_of p n (fun i hi => h i (by omega))
    obtain ⟨y, hy⟩ := h n (by omega)
    refine ⟨xs ++ [y], by simp [hl], fun i x hi => ?_⟩
    by_cases e : i < n
    · rw [List.getElem?_append_left (by omega)] at hi
      exact hx i x hi
    · by_cases e2 : i = n
      · subst e2
        rw [List.getElem?_append_right (by omega), hl] at hi
        simp at hi
        subst hi
        exact hy
      · rw [List.getElem?_append_right (by omega), List.getElem?_eq_none (by simp; omega)] at hi
        cases hi

set_option maxRecDepth 100000 in
theorem addr_add_none {b off : Nat} (k : Nat) : (Addr.add ⟨b, off, none⟩ k) = ⟨b, off + k, none⟩ := by
  unfold Addr.add
  split <;> simp_all

set_option maxRecDepth 100000 in
theorem own : ownKnob Try.prog.godebug = Option.none := by kernel_rfl
set_option maxRecDepth 100000 in
theorem laidOut : laidOutB Try.prog = true := by kernel_rfl

end Go.Proofs.Ythiojkpoeejkaaa
