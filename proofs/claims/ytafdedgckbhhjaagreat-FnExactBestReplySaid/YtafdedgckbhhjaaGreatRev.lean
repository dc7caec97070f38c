/- Rankings that are turned round or left by a candidate, and copies made by append. -/
import Derived.Test.YtafdedgckbhhjaaGreatRai
namespace Go.Proofs.YtafdedgckbhhjaaGreat
open Go.RowKit

set_option maxRecDepth 100000 in
/-- A list that is read appended to an empty one of the call's own: what was there stays. -/
theorem run_cpy (ws : World) (B g : Nat) (ty : TypeId) (hO : OwnI ws B (.slice (some ⟨g, 0, none⟩) 0 0) []) (hB : B ≤ ws.heap.size) (ax : Option Addr) (ys : List Int) (c : Nat) (hR : RdI ws ax ys) (hl : ys.length ≤ 100000) :
    ∃ v' w', (Builtin.append_ #[26, 26] ty #[.slice (some ⟨g, 0, none⟩) 0 0, .slice ax ys.length c]).run Tryz.prog ws = .ok v' w' ∧ OwnI w' B v' ys ∧ Ext ws w' := by
  obtain ⟨i0, hi, hz0, hz1, hz2⟩ := info_parts info_int
  by_cases hne : ys = []
  · subst hne
    exact ⟨_, ws, run_append_none ws B 26 ty 3 i0 1 Tryz.underlying26 hi _ 0 [] hO ax c, hO, Ext.refl _⟩
  · obtain ⟨b, off, rfl, hc⟩ := hR hne
    have hp : 0 < ys.length := List.length_pos_iff.2 hne
    have hcell : ∀ (j : Nat) u, (ys.map (Value.int .i64))[j]? = some u → ws.cell? ((⟨b, off, none⟩ : Addr).add j) = some u := fun j u hj => by
      rw [List.getElem?_map, Option.map_eq_some_iff] at hj
      obtain ⟨y, hy, rfl⟩ := hj
      have := hc j y hy
      by_cases hj0 : j = 0
      · subst hj0
        simpa [Addr.add] using this
      · simpa [Addr.add, hj0] using this
    obtain ⟨v', w', hr, h1, h2, h3⟩ := run_append_any (P := Tryz.prog) ws B 26 ty 3 i0 (.int .i64 0) 1 8 Tryz.underlying26 hi hz0 hz1 hz2 rfl (by decide) _ _ _ hO (some ⟨b, off, none⟩) ys.length c (ys.map (Value.int .i64)) (by simp)
      (fun _ => ⟨_, rfl, hcell⟩) (fun u hu => by
        obtain ⟨y, _, rfl⟩ := List.mem_map.1 hu
        rfl) (by unfold maxLen; simp; omega) (by simp; omega) hB
    have hr2 := run_append_grow (P := Tryz.prog) ws 26 ty 3 i0 (.int .i64 0) Tryz.underlying26 hi hz0 ⟨g, 0, none⟩ 0 0 [] (by simp) (fun j v h => by simp at h) ⟨b, off, none⟩ ys.length c (ys.map (Value.int .i64)) (by rw [hz1]; simp) hcell (by omega) (by simp; omega)
      (growslice_fits (by omega) (by rw [hz2]; omega))
    have hr' := hr
    rw [hr] at hr2
    injection hr2 with e1 e2
    refine ⟨v', w', hr', ?_, ?_⟩
    · have h1' : w'.ownsRow B 3 1 v' (0 + ys.length) ([] ++ ys.map (Value.int .i64)) := h1
      rw [Nat.zero_add, List.nil_append] at h1'
      exact h1'
    · rw [e2]
      exact ((Ext.refl ws).drew).alloc _
set_option maxRecDepth 100000 in
theorem oper_cpyI {o : Oper} {a : Act} {K : World → Act → Prop} (wq ws : World) (hws : Ext (wq.alloc (.cells #[] 3)) ws) (s x : Operand)
    (ho : o.op = .call { callee := .builtin .append, args := #[s, x], argTypes := #[26, 26] }) (ys : List Int) (ax : Option Addr) (n c : Nat) (hn : n = ys.length)
    (hs : a.eval s = .slice (some ⟨wq.heap.size, 0, none⟩) 0 0) (hx : a.eval x = .slice ax n c) (hR : RdI ws ax ys) (hl : ys.length ≤ 100000)
    (h : ∀ v' w', OwnI w' wq.heap.size v' ys → Ext ws w' → Ext ws w' ∧ K w' (a.put o.dst v')) : o.wp Tryz.prog a ws (fun a' w' => Ext ws w' ∧ K w' a') NoExit := by
  subst hn
  have hsz := hws.size
  have hs2 : (wq.alloc (.cells #[] 3)).heap.size = wq.heap.size + 1 := by simp
  obtain ⟨v', w', hr, h1, h2⟩ := run_cpy ws wq.heap.size wq.heap.size o.type ((OwnI.made0 wq).ext hws) (by omega) ax ys c hR hl
  unfold Oper.wp execOp
  simp only [ho, resolve, invoke, builtin, Sem.run_bind, Sem.run_pure, Result.andThen_ok, List.map_toArray, List.map_cons, List.map_nil, hs, hx, hr]
  exact h v' w' h1 h2

end Go.Proofs.YtafdedgckbhhjaaGreat
