/- Words on memory: slices that read as lists, kept as memory is added; small laws on lists and integers for the walks. -/
import Derived.Test.YtacmabdeocmheaaRegion
import Derived.WalkKit
import Derived.WalkSpells
import Derived.WalkLawsBesides
import Derived.Deep.LoopGhost
namespace Go.Proofs.Ytacmabdeocmheaa
open Go.RowKit

set_option maxRecDepth 100000 in
/-- Kept from the walk's eyes. -/
theorem hide {p : Prop} (h : p) : Hid p := h

/-- A call of function K enters it ('Try.call<K>'). -/
def Enters (P : Program) (K : Nat) : Prop := ∀ (args : Array Value) (w : World), (callFunc K args).run P w = .ok (.enter K args) w

/-- The slice address a reads as the integers xs. -/
def RdI (w : World) (a : Option Addr) (xs : List Int) : Prop :=
  xs ≠ [] → ∃ b off, a = some ⟨b, off, none⟩ ∧ ∀ (j : Nat) (x : Int), xs[j]? = some x → w.cell? ⟨b, off + j, none⟩ = some (.int .i64 x)
/-- .. as structs of two integers. -/
def RdP (w : World) (a : Option Addr) (xs : List (Int × Int)) : Prop :=
  xs ≠ [] → ∃ b off, a = some ⟨b, off, none⟩ ∧ ∀ (j : Nat) (x : Int × Int), xs[j]? = some x → w.cell? ⟨b, off + j * 2, none⟩ = some (.int .i64 x.1) ∧ w.cell? ⟨b, off + j * 2 + 1, none⟩ = some (.int .i64 x.2)

set_option maxRecDepth 100000 in
theorem Ext.keep {w w' : World} (h : Ext w w') {p : Addr} {v : Value} (hp : w.cell? p = some v) : w'.cell? p = some v := (h.cellS p (by rw [hp]; rfl)).trans hp

set_option maxRecDepth 100000 in
theorem RdI.ext {w w' : World} {a : Option Addr} {xs : List Int} (h : RdI w a xs) (hw : Ext w w') : RdI w' a xs := fun hne => by
  obtain ⟨b, off, ha, hc⟩ := h hne
  exact ⟨b, off, ha, fun j x hx => hw.keep (hc j x hx)⟩
set_option maxRecDepth 100000 in
theorem RdP.ext {w w' : World} {a : Option Addr} {xs : List (Int × Int)} (h : RdP w a xs) (hw : Ext w w') : RdP w' a xs := fun hne => by
  obtain ⟨b, off, ha, hc⟩ := h hne
  exact ⟨b, off, ha, fun j x hx => ⟨hw.keep (hc j x hx).1, hw.keep (hc j x hx).2⟩⟩
set_option maxRecDepth 100000 in
theorem RdI.nil (w : World) (a : Option Addr) : RdI w a [] := fun h => absurd rfl h
set_option maxRecDepth 100000 in
theorem RdP.nil (w : World) (a : Option Addr) : RdP w a [] := fun h => absurd rfl h

set_option maxRecDepth 100000 in
theorem ne_of_at {α : Type} {xs : List α} {k : Nat} {x : α} (h : xs[k]? = some x) : xs ≠ [] := by rintro rfl; simp at h
set_option maxRecDepth 100000 in
theorem at_of_lt {α : Type} {xs : List α} {k : Nat} (h : k < xs.length) : ∃ x, xs[k]? = some x := ⟨xs[k], List.getElem?_eq_getElem h⟩
set_option maxRecDepth 100000 in
theorem lt_of_at {α : Type} {xs : List α} {k : Nat} {x : α} (h : xs[k]? = some x) : k < xs.length := (List.getElem?_eq_some_iff.1 h).1
set_option maxRecDepth 100000 in
theorem take_at {α : Type} {xs : List α} {k : Nat} {x : α} (h : xs[k]? = some x) : xs.take (k + 1) = xs.take k ++ [x] := by
  rw [List.take_add_one, h]; rfl
set_option maxRecDepth 100000 in
theorem RdI.at_ {w : World} {a : Option Addr} {xs : List Int} (h : RdI w a xs) {k : Nat} {x : Int} (hx : xs[k]? = some x) :
    ∃ b off, a = some ⟨b, off, none⟩ ∧ w.cell? ⟨b, off + k, none⟩ = some (.int .i64 x) := by
  obtain ⟨b, off, ha, hc⟩ := h (ne_of_at hx)
  exact ⟨b, off, ha, hc k x hx⟩
set_option maxRecDepth 100000 in
theorem RdP.at_ {w : World} {a : Option Addr} {xs : List (Int × Int)} (h : RdP w a xs) {k : Nat} {x : Int × Int} (hx : xs[k]? = some x) :
    ∃ b off, a = some ⟨b, off, none⟩ ∧ w.cell? ⟨b, off + k * 2, none⟩ = some (.int .i64 x.1) ∧ w.cell? ⟨b, off + k * 2 + 1, none⟩ = some (.int .i64 x.2) := by
  obtain ⟨b, off, ha, hc⟩ := h (ne_of_at hx)
  exact ⟨b, off, ha, hc k x hx⟩

set_option maxRecDepth 100000 in
/-- The cells of a block just made. -/
theorem new0 (w : World) (v : Value) (vs : List Value) (t : TypeId) : (w.alloc (.cells ⟨v :: vs⟩ t)).cell? ⟨w.heap.size, 0, none⟩ = some v := by
  rw [World.cell?_alloc_at _ _ _ _ rfl]; rfl
set_option maxRecDepth 100000 in
theorem new1 (w : World) (v u : Value) (vs : List Value) (t : TypeId) : (w.alloc (.cells ⟨v :: u :: vs⟩ t)).cell? ⟨w.heap.size, 1, none⟩ = some u := by
  rw [World.cell?_alloc_at _ _ _ _ rfl]; rfl
set_option maxRecDepth 100000 in
theorem Ext.new (w : World) (o : Obj) : Ext w (w.alloc o) := (Ext.refl w).alloc o

set_option maxRecDepth 100000 in
theorem Ext.a {w w' : World} {o : Obj} (h : Ext (w.alloc o) w') : Ext w w' := (Ext.new w o).trans h
set_option maxRecDepth 100000 in
theorem Ext.d {w w' : World} (h : Ext w.drew w') : Ext w w' := ((Ext.refl w).drew).trans h

set_option maxRecDepth 100000 in
/-- A cell that is there is as it was behind a new block. -/
@[simp, go_sem] theorem alloc_cellS (w : World) (a : Addr) (o : Obj) (h : (w.cell? a).isSome = true) : (w.alloc o).cell? a = w.cell? a := (Ext.new w o).cellS a h
set_option maxRecDepth 100000 in
@[simp, go_sem] theorem alloc_frozenS (w : World) (a : Addr) (o : Obj) (h : (w.cell? a).isSome = true) : (w.alloc o).frozen? a = w.frozen? a := (Ext.new w o).frozenS a h

set_option maxRecDepth 100000 in
@[simp, go_sem] theorem setCell_sameS (w : World) (p : Addr) (v : Value) (h : (w.cell? p).isSome = true) : (w.setCell p v).cell? p = some v := by
  obtain ⟨u, hu⟩ := Option.isSome_iff_exists.1 h
  exact World.cell?_setCell_same _ _ _ hu

/-- low ≤ n ≤ high. -/
def inR (n lo hi : Int) : Bool := decide (lo ≤ n) && decide (n ≤ hi)
set_option maxRecDepth 100000 in
theorem inR_iff {n lo hi : Int} : inR n lo hi = true ↔ lo ≤ n ∧ n ≤ hi := by simp [inR]
set_option maxRecDepth 100000 in
theorem inR_not {n lo hi : Int} : inR n lo hi = false ↔ n < lo ∨ hi < n := by
  rw [← Bool.not_eq_true, inR_iff]; omega
/-- The greatest set of sz candidates. -/
def topOf (sz : Int) : Int := 2 ^ sz.toNat - 1
set_option maxRecDepth 100000 in
theorem top_wrap {sz : Int} (h1 : 1 ≤ sz) (h6 : sz ≤ 6) : IntKind.i64.wrap (IntKind.i64.wrap (2 ^ sz.toNat) - 1) = topOf sz := by
  have : sz = 1 ∨ sz = 2 ∨ sz = 3 ∨ sz = 4 ∨ sz = 5 ∨ sz = 6 := by omega
  rcases this with rfl | rfl | rfl | rfl | rfl | rfl <;> decide
set_option maxRecDepth 100000 in
theorem top_wrap64 {sz : Int} (h1 : 1 ≤ sz) (h6 : sz ≤ 6) : wrap64 (wrap64 (2 ^ sz.toNat) - 1) = topOf sz := by
  have h := top_wrap h1 h6
  rwa [IntWalk.i64_left, IntWalk.i64_left] at h
set_option maxRecDepth 100000 in
theorem any_not {α : Type} (xs : List α) (f : α → Bool) : (xs.any fun x => !f x) = !xs.all f := by
  rw [List.not_all_eq_any_not]
set_option maxRecDepth 100000 in
theorem shl_wrap {sz : Int} (h1 : 0 ≤ sz) (h6 : sz ≤ 6) : IntKind.i64.wrap (2 ^ sz.toNat) = topOf sz + 1 := by
  have : sz = 0 ∨ sz = 1 ∨ sz = 2 ∨ sz = 3 ∨ sz = 4 ∨ sz = 5 ∨ sz = 6 := by omega
  rcases this with rfl | rfl | rfl | rfl | rfl | rfl | rfl <;> decide
set_option maxRecDepth 100000 in
theorem all_take {α : Type} {xs : List α} {f : α → Bool} {k : Nat} {x : α} (hx : xs[k]? = some x) (h : (xs.take k).all f = true) : (xs.take (k + 1)).all f = f x := by
  rw [take_at hx, List.all_append, h]; simp
set_option maxRecDepth 100000 in
theorem all_false {α : Type} {xs : List α} {f : α → Bool} {k : Nat} {x : α} (hx : xs[k]? = some x) (h : f x = false) : xs.all f = false := by
  rw [List.all_eq_false]; exact ⟨x, List.mem_of_getElem? hx, by simp [h]⟩
set_option maxRecDepth 100000 in
theorem all_whole {α : Type} {xs : List α} {f : α → Bool} {k : Nat} (hk : xs.length ≤ k) (h : (xs.take k).all f = true) : xs.all f = true := by
  rwa [List.take_of_length_le hk] at h
set_option maxRecDepth 100000 in
theorem ret_bool {a b : Bool} (h : a = b) : Ending.returned (.bool a) = .returned (.bool b) := by rw [h]
set_option maxRecDepth 100000 in
theorem ret_int {a b : Int} (h : a = b) : Ending.returned (.int .i64 a) = .returned (.int .i64 b) := by rw [h]

end Go.Proofs.Ytacmabdeocmheaa
