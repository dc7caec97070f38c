/- A whole list appended to a list of the call's own, wherever it lies (also an empty one that lies nowhere). -/
import Derived.Test.YtacmabdeocmheaaAllA
namespace Go.Proofs.Ytacmabdeocmheaa
open Go.RowKit

set_option maxRecDepth 100000 in
theorem run_append_none {P : Program} (w : World) (base : Nat) (t ty e : TypeId) (i : TypeInfo) (size : Nat) (ht : P.underlying t = some (.slice e)) (hi : P.info? e = some i)
    (v : Value) (n : Nat) (xs : List Value) (hown : w.ownsRow base e size v n xs) (ax : Option Addr) (c : Nat) :
    (Builtin.append_ #[t, t] ty #[v, .slice ax 0 c]).run P w = .ok v w := by
  rcases hown.2 with ⟨rfl, rfl⟩ | ⟨g, cap, cur, rfl, _, _, hnc, _⟩ <;> cases ax
  · simp [Builtin.append_, run_underlying ht, sizeOf, typeInfo, hi, Builtin.lenOf, Builtin.firstCells]
  · simp [Builtin.append_, run_underlying ht, sizeOf, typeInfo, hi, Builtin.lenOf, Builtin.firstCells, loadCells, loadCellsFrom]
  · simp [Builtin.append_, run_underlying ht, sizeOf, typeInfo, hi, Builtin.lenOf, Builtin.firstCells, hnc, storeCells]
  · simp [Builtin.append_, run_underlying ht, sizeOf, typeInfo, hi, Builtin.lenOf, Builtin.firstCells, hnc, storeCells, loadCells, loadCellsFrom]

set_option maxRecDepth 100000 in
theorem run_append_any {P : Program} (w : World) (base : Nat) (t ty e : TypeId) (i : TypeInfo) (z : Value) (size bytes : Nat) (ht : P.underlying t = some (.slice e)) (hi : P.info? e = some i) (hz : i.zero = some z)
    (hsize : i.size = size) (hby : i.bytes = bytes) (hzs : z.cells.size = size) (hsz : 0 < size)
    (v : Value) (n : Nat) (xs : List Value) (hown : w.ownsRow base e size v n xs)
    (ax : Option Addr) (m c : Nat) (news : List Value) (hl : news.length = m * size) (hnews : news ≠ [] → ∃ a, ax = some a ∧ ∀ (j : Nat) u, news[j]? = some u → w.cell? (a.add j) = some u) (h1 : ∀ u ∈ news, u.oneCell' = true)
    (h63 : n + m ≤ maxLen) (hbytes : (n + m) * bytes ≤ 140737488355328) (hbase : base ≤ w.heap.size) :
    ∃ v' w', (Builtin.append_ #[t, t] ty #[v, .slice ax m c]).run P w = .ok v' w' ∧ w'.ownsRow base e size v' (n + m) (xs ++ news) ∧ w.grownBy w' v.ownBlock ∧ Fresh w v v' := by
  by_cases hm : m = 0
  · subst hm
    have hn : news = [] := List.length_eq_zero_iff.1 (by simpa using hl)
    subst hn
    refine ⟨v, w, run_append_none w base t ty e i size ht hi v n xs hown ax c, by simpa using hown, ⟨rfl, rfl, rfl, Nat.le_refl _, fun _ _ _ => rfl⟩, .inl rfl⟩
  · obtain ⟨a, rfl, hc⟩ := hnews (fun e => by
      rw [e] at hl
      have := Nat.mul_pos (Nat.pos_of_ne_zero hm) hsz
      simp only [List.length_nil] at hl; omega)
    exact run_append_fresh w base t ty e i z size bytes ht hi hz hsize hby hzs hsz v n xs hown a m c news hl hc h1 (by omega) h63 hbytes hbase

set_option maxRecDepth 100000 in
theorem wpList_appG {ops : Array Oper} {rest : List Oper} {o : Oper} {a : Act} {Q : Exit → Act → World → Prop} (B : Nat) (w3 : World) (hgd : o.guard = none) (s x : Operand)
    (ho : o.op = .call { callee := .builtin .append, args := #[s, x], argTypes := #[50, 50] }) (v : Value) (xs ys : List Int) (hs : a.eval s = v) (hown : OwnI w3 B v xs) (hB : B ≤ w3.heap.size)
    (ax : Option Addr) (n c : Nat) (hn : n = ys.length) (hx : a.eval x = .slice ax n c) (hR : RdI w3 ax ys) (hlen : xs.length + ys.length ≤ 2000000)
    (h : ∀ v' w', OwnI w' B v' (xs ++ ys) → w3.grownBy w' v.ownBlock → Fresh w3 v v' → wpList Try.prog ops Q rest (a.put o.dst v') w') : wpList Try.prog ops Q (o :: rest) a w3 := by
  obtain ⟨i0, hi, hz0, hz1, hz2⟩ := info_parts info_int
  subst hn
  obtain ⟨v', w', hr, h1, h2, h3⟩ := run_append_any (P := Try.prog) w3 B 50 o.type 3 i0 (.int .i64 0) 1 8 Try.underlying50 hi hz0 hz1 hz2 rfl (by decide) v xs.length _ hown ax ys.length c (ys.map (Value.int .i64)) (by simp)
    (fun hne => by
      obtain ⟨b, off, rfl, hc⟩ := hR (fun e => hne (by rw [e]; rfl))
      refine ⟨_, rfl, fun j u hj => ?_⟩
      rw [List.getElem?_map, Option.map_eq_some_iff] at hj
      obtain ⟨y, hy, rfl⟩ := hj
      have := hc j y hy
      by_cases hj0 : j = 0
      · subst hj0
        simpa [Addr.add] using this
      · simpa [Addr.add, hj0] using this)
    (fun u hu => by
      obtain ⟨y, _, rfl⟩ := List.mem_map.1 hu
      rfl) (by unfold maxLen; omega) (by omega) hB
  refine wpList_plain hgd fun K hK => ?_
  unfold Oper.wp execOp
  simp only [ho, resolve, invoke, builtin, Sem.run_bind, Sem.run_pure, Result.andThen_ok, List.map_toArray, List.map_cons, List.map_nil, hs, hx, hr]
  refine hK _ _ (h v' w' ?_ h2 h3)
  unfold OwnI
  rw [List.map_append, List.length_append]
  exact h1

set_option maxRecDepth 100000 in
theorem OwnI.rdI {w : World} {B : Nat} {a : Option Addr} {n c : Nat} {xs : List Int} (h : OwnI w B (.slice a n c) xs) : RdI w a xs := by
  obtain ⟨a', c', e, _, _, hR, _⟩ := h.val
  injection e with e1 e2 e3
  subst e1
  exact hR
set_option maxRecDepth 100000 in
/-- A part of a list that is read, from k on (the address stays where nothing is left behind it). -/
theorem RdI.drop {w : World} {b off n : Nat} {xs : List Int} (h : RdI w (some ⟨b, off, none⟩) xs) (k c : Nat) (hc : xs.length ≤ c) (hn : n = off + k) : RdI w (if c = k then some ⟨b, off, none⟩ else some ⟨b, n, none⟩) (xs.drop k) := fun hne => by
  have hk : k < xs.length := by
    rcases Nat.lt_or_ge k xs.length with h | h
    · exact h
    · exact absurd (List.drop_eq_nil_of_le h) hne
  obtain ⟨b', off', e, hc'⟩ := h (fun e => by rw [e] at hk; simp at hk)
  injection e with e
  injection e with e1 e2
  subst e1 e2
  rw [if_neg (by omega)]
  subst hn
  refine ⟨b, off + k, rfl, fun j x hx => ?_⟩
  rw [List.getElem?_drop] at hx
  rw [Nat.add_assoc]
  exact hc' (k + j) x hx
set_option maxRecDepth 100000 in
/-- A list of the call's own, cut short. -/
theorem OwnI.short {w : World} {B : Nat} {a : Option Addr} {n c : Nat} {xs : List Int} (h : OwnI w B (.slice a n c) xs) (k : Nat) (hk : k ≤ xs.length) : OwnI w B (.slice a k c) (xs.take k) := by
  obtain ⟨h1, h2⟩ := h
  have hl : (xs.take k).length = k := by rw [List.length_take]; omega
  refine ⟨by simp, ?_⟩
  rw [hl]
  rcases h2 with ⟨e, h0⟩ | ⟨g, cap, cur, e, hg, hh, hc, hm, hs, ht⟩
  · injection e with e1 e2 e3
    subst e1 e3
    have : k = 0 := by omega
    subst this
    exact .inl ⟨rfl, rfl⟩
  · injection e with e1 e2 e3
    subst e1 e3
    refine .inr ⟨g, c, cur, rfl, hg, hh, by omega, hm, hs, ?_⟩
    rw [Nat.mul_one] at ht ⊢
    rw [List.map_take, ← ht, List.take_take, Nat.min_eq_left hk]

end Go.Proofs.Ytacmabdeocmheaa
