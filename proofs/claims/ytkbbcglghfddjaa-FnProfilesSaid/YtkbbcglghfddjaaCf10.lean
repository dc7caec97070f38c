/- Eliminations of the program: by a worth, any worth. slices' insertion sort with a function, over integers. slices' insertion sort with a function, over lists of integers. A whole list appended to an own list. -/
import Derived.Test.YtkbbcglghfddjaaCf8
import Derived.Test.YtkbbcglghfddjaaCf9
import Derived.Test.YtkbbcglghfddjaaCf6
import Derived.Test.YtkbbcglghfddjaaCf5
namespace Go.Proofs.Ytkbbcglghfddjaa
open Go.RowKit

def iotaL (n : Nat) : List Int := rowL n (fun j => (j : Int))
set_option maxRecDepth 100000 in
theorem iotaL_up (n : Nat) : iotaL n = upL n (fun _ => true) := by
  unfold iotaL rowL upL
  rw [List.filter_eq_self.2 (fun _ _ => rfl)]
set_option maxRecDepth 100000 in
set_option maxHeartbeats 1000000 in
theorem indices_impl (w : World) (n : Nat) (n2 : n ≤ 5) :
    Calls Try.prog 68 #[.int .i64 n] w fun e w' => e = .returned (.slice (some ⟨w.heap.size, 0, none⟩) n n) ∧ BlkF w' w.heap.size n (fun o => .int .i64 (o : Int)) ∧ Ext w w' := by
  obtain ⟨i0, hi, hz0, hz1, hz2⟩ := info_parts info_int
  have hmk := fun W => run_make_rowN (P := Try.prog) 31 3 i0 _ Try.underlying31 hi hz0 .i64 .i64 n n (Nat.le_refl _) (by rw [hz2]; omega) (by omega) W
  rw [hz1, Nat.mul_one] at hmk
  go_enter Try.func68, Try.ntmps68
  go_wp2_with fail
  clear hmk
  have hB := BlkF.new w (madeCells #[.int .i64 0] n) 3
  rw [size_madeCells] at hB
  have hE := Ext.new w (.cells (madeCells #[.int .i64 0] n) 3)
  have hB := hB.congr (f' := fun o => .int .i64 (if o < 0 then (o : Int) else 0)) (fun o ho => by rw [if_neg (by omega)]; exact made_int n o ho)
  generalize w.alloc (.cells (madeCells #[.int .i64 0] n) 3) = W1 at hB hE ⊢
  go_loopw [4, 9] (fun _ i wr => ∃ j : Nat, j ≤ n ∧ i = .int .i64 j ∧ BlkF wr w.heap.size n (fun o => .int .i64 (if o < j then (o : Int) else 0)) ∧ Ext w wr) (fun _ i _ => n - (intOf i).toNat)
  case atStart => exact ⟨0, Nat.zero_le _, rfl, hB, hE⟩
  case round =>
    clear hB hE
    obtain ⟨i, hi, rfl, hB, hwr⟩ := hrel
    by_cases hlt : i < n
    · have d0 := hB.cell i hlt
      rw [if_neg (by omega)] at d0
      have z0 := hB.fr i
      have HB := hide hB
      clear hB
      go_wp2
      refine ⟨⟨i + 1, by omega, by go_num, (HB.out.set i hlt _).congr (fun o ho => ?_), Ext.setCell hwr (Nat.le_refl _) _⟩, by simp [intOf]; omega⟩
      by_cases e : o = i
      · subst e; rw [if_pos rfl, if_pos (by omega)]
      · rw [if_neg e]
        by_cases e2 : o < i
        · rw [if_pos e2, if_pos (by omega)]
        · rw [if_neg e2, if_neg (by omega)]
    · have hin : i = n := by omega
      go_wp2
      go_ret
      exact ⟨rfl, hB.congr (fun o ho => by rw [if_pos (by omega)]), hwr⟩

set_option maxRecDepth 100000 in
/-- v reads as the list, in a block that may be written. -/
theorem BlkF.rdL {w : World} {g n : Nat} {f : Nat → Value} {xs : List Int} (h : BlkF w g n f) (hn : xs.length ≤ n) (hf : ∀ (j : Nat) (x : Int), xs[j]? = some x → f j = .int .i64 x) : RdI w (some ⟨g, 0, none⟩) xs := fun _ => ⟨g, 0, rfl, fun j x hx => by rw [Nat.zero_add, h.cell j (by have := lt_of_at hx; omega), hf j x hx]⟩

set_option maxRecDepth 100000 in
theorem BlkF.grown {w w' : World} {g n : Nat} {f : Nat → Value} {row : Option Nat} (h : BlkF w g n f) (hg : w.grownBy w' row) (hr : ∀ k, row = some k → k ≠ g) : BlkF w' g n f := by
  have hgr : w'.heap[g]? = w.heap[g]? := hg.block g h.lt (fun e => hr g e.symm rfl)
  exact ⟨Nat.lt_of_lt_of_le h.lt hg.size, fun o => (World.frozen?_of_block (w := w) hgr).trans (h.fr o), fun o ho => (World.cell?_of_block (w := w) hgr).trans (h.cell o ho)⟩

def elimO (sz : Int) (vs : List Vt) (W : List Int → Int → Int) : List Int := if profOk sz vs then elimL sz.toNat W sz.toNat else []
set_option maxRecDepth 100000 in
theorem elimO_len (sz : Int) (vs : List Vt) (W : List Int → Int → Int) : (elimO sz vs W).length ≤ 5 := by
  unfold elimO
  cases h0 : profOk sz vs
  · simp
  · obtain ⟨n, rfl, n1, n2⟩ := prof_nat h0
    simp [elimL_len]; omega
set_option maxRecDepth 100000 in
theorem pickV_take {f : Int → Int} {xs : List Int} {k : Nat} {x : Int} (h : xs[k]? = some x) : pickV f (xs.take (k + 1)) = if pickV f (xs.take k) < 0 ∨ f x ≤ f (pickV f (xs.take k)) then x else pickV f (xs.take k) := by
  rw [take_at h, pickV_snoc]

/-- x at place j of S, and what follows. -/
def layL {α : Type} (S : List α) (x : α) (rest : List α) (j : Nat) : List α := S.take j ++ x :: (S.drop j ++ rest)
set_option maxRecDepth 100000 in
theorem layL_at {α : Type} {S rest : List α} {x : α} {j : Nat} (hj : j ≤ S.length) (o : Nat) : (layL S x rest j)[o]? = if o < j then S[o]? else if o = j then some x else (S ++ rest)[o - 1]? := by
  unfold layL
  by_cases h1 : o < j
  · rw [if_pos h1, List.getElem?_append_left (by rw [List.length_take]; omega), List.getElem?_take_of_lt h1]
  · rw [if_neg h1, List.getElem?_append_right (by rw [List.length_take]; omega), List.length_take, Nat.min_eq_left hj]
    by_cases h2 : o = j
    · subst h2; simp
    · rw [if_neg h2]
      obtain ⟨k, hk⟩ : ∃ k, o = j + (k + 1) := ⟨o - j - 1, by omega⟩
      subst hk
      rw [show j + (k + 1) - j = k + 1 by omega, List.getElem?_cons_succ, show j + (k + 1) - 1 = j + k by omega]
      by_cases h3 : j + k < S.length
      · rw [List.getElem?_append_left (by rw [List.length_drop]; omega), List.getElem?_append_left h3, List.getElem?_drop]
      · rw [List.getElem?_append_right (by rw [List.length_drop]; omega), List.getElem?_append_right (by omega), List.length_drop]
        congr 1; omega
set_option maxRecDepth 100000 in
theorem layL_len {α : Type} {S rest : List α} {x : α} {j : Nat} (hj : j ≤ S.length) : (layL S x rest j).length = S.length + 1 + rest.length := by
  unfold layL
  rw [List.length_append, List.length_take, List.length_cons, List.length_append, List.length_drop]; omega
set_option maxRecDepth 100000 in
theorem layL_end {α : Type} (S : List α) (x : α) (rest : List α) : layL S x rest S.length = S ++ x :: rest := by
  unfold layL; rw [List.take_length, List.drop_length]; rfl
/-- What stands in memory. -/
def memF {α : Type} (val : α → Value) (zs : List α) (o : Nat) : Value := ((zs[o]?).map val).getD undef
set_option maxRecDepth 100000 in
theorem memF_at {α : Type} {val : α → Value} {zs : List α} {o : Nat} {x : α} (h : zs[o]? = some x) : memF val zs o = val x := by simp [memF, h]

set_option maxRecDepth 100000 in
theorem lay_swap {α : Type} {val : α → Value} {S R : List α} {x y : α} {m : Nat} (hy : S[m]? = some y) (hm : m + 1 ≤ S.length) (o : Nat) :
    (if o = m then val x else if o = m + 1 then val y else memF val (layL S x R (m + 1)) o) = memF val (layL S x R m) o := by
  by_cases h1 : o = m
  · subst h1
    rw [if_pos rfl, memF_at (x := x) (by rw [layL_at (by omega), if_neg (by omega), if_pos rfl])]
  · rw [if_neg h1]
    by_cases h2 : o = m + 1
    · subst h2
      rw [if_pos rfl, memF_at (x := y)]
      rw [layL_at (by omega), if_neg (by omega), if_neg (by omega), show m + 1 - 1 = m by omega, List.getElem?_append_left (by omega)]
      exact hy
    · rw [if_neg h2]
      unfold memF
      rw [layL_at hm, layL_at (by omega)]
      by_cases h3 : o < m
      · rw [if_pos (by omega), if_pos h3]
      · rw [if_neg (by omega), if_neg h2, if_neg h3, if_neg h1]

set_option maxRecDepth 100000 in
theorem Low.set {H : Nat} (w : World) {p : Addr} (hp : H ≤ p.block) (v : Value) : Low H w (w.setCell p v) :=
  ⟨by simp [World.setCell], fun k hk _ => Below.heap_setCell w _ v k (by rintro rfl; omega)⟩

/-- A list in memory: where it lies, and what it holds. -/
structure RowE where
  a : Option Addr
  n : Nat
  c : Nat
  xs : List Int
def rowV (e : RowE) : Value := .slice e.a e.n e.c

set_option maxRecDepth 100000 in
theorem wpList_appAll {ops : Array Oper} {rest : List Oper} {o : Oper} {a : Act} {Q : Exit → Act → World → Prop} (B : Nat) (w3 : World) (hgd : o.guard = none) (s x : Operand)
    (ho : o.op = .call { callee := .builtin .append, args := #[s, x], argTypes := #[31, 31] }) (v : Value) (xs ys : List Int) (hs : a.eval s = v) (hown : OwnI w3 B v xs) (hB : B ≤ w3.heap.size)
    (b off n c : Nat) (hn : n = ys.length) (hx : a.eval x = .slice (some ⟨b, off, none⟩) n c) (hR : RdI w3 (some ⟨b, off, none⟩) ys) (hlen : xs.length + ys.length ≤ 2000000)
    (h : ∀ v' w', OwnI w' B v' (xs ++ ys) → w3.grownBy w' v.ownBlock → wpList Try.prog ops Q rest (a.put o.dst v') w') : wpList Try.prog ops Q (o :: rest) a w3 := by
  obtain ⟨i0, hi, hz0, hz1, hz2⟩ := info_parts info_int
  subst hn
  obtain ⟨v', w', hr, h1, h2, _⟩ := run_append_own (P := Try.prog) w3 B 31 o.type 3 i0 (.int .i64 0) 1 8 Try.underlying31 hi hz0 hz1 hz2 rfl (by decide) v xs.length _ hown ⟨b, off, none⟩ ys.length c (ys.map (Value.int .i64)) (by simp)
    (fun j u hj => by
      rw [List.getElem?_map, Option.map_eq_some_iff] at hj
      obtain ⟨y, hy, rfl⟩ := hj
      obtain ⟨b', off', e, hc⟩ := hR.at_ hy
      injection e with e
      injection e with e1 e2
      subst e1 e2
      by_cases hj0 : j = 0
      · subst hj0
        simpa [Addr.add] using hc
      · simpa [Addr.add, hj0] using hc)
    (fun u hu => by
      obtain ⟨y, _, rfl⟩ := List.mem_map.1 hu
      rfl) (by unfold maxLen; omega) (by omega) hB
  refine wpList_plain hgd fun K hK => ?_
  unfold Oper.wp execOp
  simp only [ho, resolve, invoke, builtin, Sem.run_bind, Sem.run_pure, Result.andThen_ok, List.map_toArray, List.map_cons, List.map_nil, hs, hx, hr]
  refine hK _ _ (h v' w' ?_ h2)
  unfold OwnI
  rw [List.map_append, List.length_append]
  exact h1

end Go.Proofs.Ytkbbcglghfddjaa
