/- Appends that say where the new list lies: in its old block, or in a new one. -/
import Derived.Test.YtacmabdeocmheaaMatB
namespace Go.Proofs.Ytacmabdeocmheaa
open Go.RowKit

/-- The list lies where it lay, or in memory that was not there. -/
def Fresh (w : World) (v v' : Value) : Prop := v'.ownBlock = v.ownBlock ∨ ∀ k, v'.ownBlock = some k → w.heap.size ≤ k

set_option maxRecDepth 100000 in
theorem run_append_fresh {P : Program} (w : World) (base : Nat) (t ty e : TypeId) (i : TypeInfo) (z : Value) (size bytes : Nat) (ht : P.underlying t = some (.slice e)) (hi : P.info? e = some i) (hz : i.zero = some z)
    (hsize : i.size = size) (hby : i.bytes = bytes) (hzs : z.cells.size = size) (hsz : 0 < size)
    (v : Value) (n : Nat) (xs : List Value) (hown : w.ownsRow base e size v n xs)
    (a : Addr) (m c : Nat) (news : List Value) (hl : news.length = m * size) (hnews : ∀ (j : Nat) u, news[j]? = some u → w.cell? (a.add j) = some u) (h1 : ∀ u ∈ news, u.oneCell' = true) (hm : 0 < m)
    (h63 : n + m ≤ maxLen) (hbytes : (n + m) * bytes ≤ 140737488355328) (hbase : base ≤ w.heap.size) :
    ∃ v' w', (Builtin.append_ #[t, t] ty #[v, .slice (some a) m c]).run P w = .ok v' w' ∧ w'.ownsRow base e size v' (n + m) (xs ++ news) ∧ w.grownBy w' v.ownBlock ∧ Fresh w v v' := by
  obtain ⟨v', w', hr, h2, h3, _⟩ := run_append_own (P := P) w base t ty e i z size bytes ht hi hz hsize hby hzs hsz v n xs hown a m c news hl hnews h1 h63 hbytes hbase
  refine ⟨v', w', hr, h2, h3, ?_⟩
  subst hsize
  subst hby
  have hmx : n + m ≤ 9223372036854775807 := by simp only [maxLen] at h63; omega
  rcases hown.2 with ⟨rfl, rfl⟩ | ⟨g, cap, cur, rfl, hbg, hg, hnc, hcm, hcs, htake⟩
  · have hr2 := run_append_nil (P := P) w t ty e i z ht hi hz a m c news hl hnews hm (by omega) (by have hb := hbytes; simp only [Nat.zero_add] at hb; omega)
    rw [hr] at hr2
    injection hr2 with e1 e2
    subst e1
    exact .inr (fun k hk => by simp only [Value.ownBlock, Option.some.injEq] at hk; omega)
  · by_cases hroom : n + m ≤ cap
    · have hfit : n * i.size + news.length ≤ cur.size := by rw [hl, hcs, ← Nat.add_mul]; exact Nat.mul_le_mul_right _ hroom
      have hr2 := run_append_room (P := P) w t ty e i ht hi g n cap cur hg a m c news hl hnews h1 hroom hfit
      rw [hr] at hr2
      injection hr2 with e1 e2
      subst e1
      exact .inl rfl
    · have holds : ∀ (j : Nat) u, xs[j]? = some u → w.cell? ((⟨g, 0, none⟩ : Addr).add j) = some u := hown.cells (g := g) rfl
      have hr2 := run_append_grow (P := P) w t ty e i z ht hi hz ⟨g, 0, none⟩ n cap xs hown.1 holds a m c news hl hnews (by omega) (by omega) (growslice_fits (by omega) hbytes)
      rw [hr] at hr2
      injection hr2 with e1 e2
      subst e1
      exact .inr (fun k hk => by simp only [Value.ownBlock, Option.some.injEq] at hk; omega)

set_option maxRecDepth 100000 in
theorem wpList_appF {ops : Array Oper} {rest : List Oper} {o : Oper} {a : Act} {Q : Exit → Act → World → Prop} (B : Nat) (w3 : World) (hgd : o.guard = none) (s x : Operand)
    (ho : o.op = .call { callee := .builtin .append, args := #[s, x], argTypes := #[50, 50] }) (v : Value) (xs : List Int) (y : Int) (hs : a.eval s = v) (hown : OwnI w3 B v xs) (hB : B ≤ w3.heap.size)
    (hx : a.eval x = .slice (some ⟨w3.heap.size, 0, none⟩) 1 1) (hlen : xs.length ≤ 2000000)
    (h : ∀ v' w', OwnI w' B v' (xs ++ [y]) → w3.grownBy w' v.ownBlock → Fresh w3 v v' → wpList Try.prog ops Q rest (a.put o.dst v') w') : wpList Try.prog ops Q (o :: rest) a (w3.alloc (.cells #[.int .i64 y] 3)) := by
  obtain ⟨i0, hi, hz0, hz1, hz2⟩ := info_parts info_int
  have hown3 := hown.ext (Ext.new w3 (.cells #[.int .i64 y] 3))
  obtain ⟨v', w', hr, h1, h2, h3⟩ := run_append_fresh (P := Try.prog) (w3.alloc (.cells #[.int .i64 y] 3)) B 50 o.type 3 i0 (.int .i64 0) 1 8 Try.underlying50 hi hz0 hz1 hz2 rfl (by decide) v xs.length _ hown3 ⟨w3.heap.size, 0, none⟩ 1 1 [.int .i64 y] rfl
    (fun j u hj => by
      match j, hj with
      | 0, hj => simp at hj; subst hj; simp [Addr.add])
    (fun u hu => by simp at hu; subst hu; rfl) (by decide) (by unfold maxLen; omega) (by omega) (by simp; omega)
  refine wpList_plain hgd fun K hK => ?_
  unfold Oper.wp execOp
  simp only [ho, resolve, invoke, builtin, Sem.run_bind, Sem.run_pure, Result.andThen_ok, List.map_toArray, List.map_cons, List.map_nil, hs, hx, hr]
  refine hK _ _ (h v' w' ?_ ?_ ?_)
  · unfold OwnI
    simpa using h1
  · exact ⟨h2.os, h2.tape, h2.output, Nat.le_trans (by simp) h2.size, fun k hk hne => (h2.block k (by simp; omega) hne).trans (Below.block (Ext.new w3 (.cells #[.int .i64 y] 3)) k hk)⟩
  · rcases h3 with h3 | h3
    · exact .inl h3
    · exact .inr (fun k hk => by have := h3 k hk; simp at this; omega)

/-- Blocks from lo on and below hi are as they were. -/
def Keeps (lo hi : Nat) (w w' : World) : Prop := w.heap.size ≤ w'.heap.size ∧ ∀ k, lo ≤ k → k < hi → w'.heap[k]? = w.heap[k]?
set_option maxRecDepth 100000 in
theorem Keeps.refl (lo hi : Nat) (w : World) : Keeps lo hi w w := ⟨Nat.le_refl _, fun _ _ _ => rfl⟩
set_option maxRecDepth 100000 in
theorem Keeps.ext {lo hi : Nat} {w w' w'' : World} (h : Keeps lo hi w w') (hw : Ext w' w'') (hh : hi ≤ w'.heap.size) : Keeps lo hi w w'' :=
  ⟨Nat.le_trans h.1 hw.size, fun k h1 h2 => (Below.block hw k (by omega)).trans (h.2 k h1 h2)⟩
set_option maxRecDepth 100000 in
theorem Keeps.grown {lo hi : Nat} {w w' w'' : World} {row : Option Nat} (h : Keeps lo hi w w') (hg : w'.grownBy w'' row) (hh : hi ≤ w'.heap.size) (hr : ∀ k, row = some k → k < lo ∨ hi ≤ k) : Keeps lo hi w w'' :=
  ⟨Nat.le_trans h.1 hg.size, fun k h1 h2 => (hg.block k (by omega) (fun e => by have := hr k e.symm; omega)).trans (h.2 k h1 h2)⟩
set_option maxRecDepth 100000 in
theorem Fresh.out {w : World} {v v' : Value} {lo hi : Nat} (h : Fresh w v v') (hv : ∀ k, v.ownBlock = some k → k < lo ∨ hi ≤ k) (hh : hi ≤ w.heap.size) : ∀ k, v'.ownBlock = some k → k < lo ∨ hi ≤ k := fun k hk => by
  rcases h with h | h
  · exact hv k (by rw [← h]; exact hk)
  · have := h k hk; omega
set_option maxRecDepth 100000 in
theorem OwnI.keeps {w w' : World} {B hi : Nat} {v : Value} {xs : List Int} (h : OwnI w B v xs) (hw : Keeps B hi w w') (hb : ∀ k, v.ownBlock = some k → k < hi) : OwnI w' B v xs := by
  obtain ⟨h1, h2⟩ := h
  refine ⟨h1, ?_⟩
  rcases h2 with h2 | ⟨g, cap, cur, rfl, hg, hh, r⟩
  · exact .inl h2
  · exact .inr ⟨g, cap, cur, rfl, hg, by rw [hw.2 g hg (hb g rfl)]; exact hh, r⟩
set_option maxRecDepth 100000 in
theorem Mat.keeps {w w' : World} {B hi g n : Nat} {us : Nat → Value} {rows : Nat → List Int} (h : Mat w B g n us rows) (hw : Keeps B hi w w') (hh : w.heap.size ≤ hi) : Mat w' B g n us rows := by
  have hl := h.outer.lt
  have hg := hw.2 g h.base (by omega)
  exact ⟨h.base, ⟨Nat.lt_of_lt_of_le hl hw.1, fun o => (World.frozen?_of_block (w := w) hg).trans (h.outer.fr o), fun o ho => (World.cell?_of_block (w := w) hg).trans (h.outer.cell o ho)⟩,
    fun o ho => (h.row o ho).keeps hw (fun k hk => Nat.lt_of_lt_of_le (World.ownsRow.lt (h.row o ho) k hk).2 hh), h.far, h.dis⟩
set_option maxRecDepth 100000 in
theorem WrSS.keeps {w w' : World} {B hi : Nat} {v : Value} {xss : List (List Int)} (h : WrSS w B v xss) (hw : Keeps B hi w w') (hh : w.heap.size ≤ hi) : WrSS w' B v xss := by
  obtain ⟨a, c, hv, hc, ho⟩ := h
  refine ⟨a, c, hv, hc, fun hne => ?_⟩
  obtain ⟨g, us, ha, hM⟩ := ho hne
  exact ⟨g, us, ha, hM.keeps hw hh⟩

end Go.Proofs.Ytacmabdeocmheaa
