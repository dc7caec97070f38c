/- A whole list appended to an own list. -/
import Derived.Test.YtacmabdeocmheaaApp
namespace Go.Proofs.Ytacmabdeocmheaa
open Go.RowKit

set_option maxRecDepth 100000 in
theorem wpList_appAll {ops : Array Oper} {rest : List Oper} {o : Oper} {a : Act} {Q : Exit → Act → World → Prop} (B : Nat) (w3 : World) (hgd : o.guard = none) (s x : Operand)
    (ho : o.op = .call { callee := .builtin .append, args := #[s, x], argTypes := #[50, 50] }) (v : Value) (xs ys : List Int) (hs : a.eval s = v) (hown : OwnI w3 B v xs) (hB : B ≤ w3.heap.size)
    (b off n c : Nat) (hn : n = ys.length) (hx : a.eval x = .slice (some ⟨b, off, none⟩) n c) (hR : RdI w3 (some ⟨b, off, none⟩) ys) (hlen : xs.length + ys.length ≤ 2000000)
    (h : ∀ v' w', OwnI w' B v' (xs ++ ys) → w3.grownBy w' v.ownBlock → wpList Try.prog ops Q rest (a.put o.dst v') w') : wpList Try.prog ops Q (o :: rest) a w3 := by
  obtain ⟨i0, hi, hz0, hz1, hz2⟩ := info_parts info_int
  subst hn
  obtain ⟨v', w', hr, h1, h2, _⟩ := run_append_own (P := Try.prog) w3 B 50 o.type 3 i0 (.int .i64 0) 1 8 Try.underlying50 hi hz0 hz1 hz2 rfl (by decide) v xs.length _ hown ⟨b, off, none⟩ ys.length c (ys.map (Value.int .i64)) (by simp)
    (fun j u hj => by
      rw [List.getElem?_map, Option.map_eq_some_iff] at hj
      obtain ⟨y, hy, rfl⟩ := hj
      obtain ⟨b', off', e, hc⟩ := hR.at_ hy
      injection e with e
      injection e with e1 e2
      subst e1 e2
      by_cases hj0 : j = 0
      · subst hj0
        simpa [Addr.add] using hc
      · simpa [Addr.add, hj0] using hc)
    (fun u hu => by
      obtain ⟨y, _, rfl⟩ := List.mem_map.1 hu
      rfl) (by unfold maxLen; omega) (by omega) hB
  refine wpList_plain hgd fun K hK => ?_
  unfold Oper.wp execOp
  simp only [ho, resolve, invoke, builtin, Sem.run_bind, Sem.run_pure, Result.andThen_ok, List.map_toArray, List.map_cons, List.map_nil, hs, hx, hr]
  refine hK _ _ (h v' w' ?_ h2)
  unfold OwnI
  rw [List.map_append, List.length_append]
  exact h1

end Go.Proofs.Ytacmabdeocmheaa
