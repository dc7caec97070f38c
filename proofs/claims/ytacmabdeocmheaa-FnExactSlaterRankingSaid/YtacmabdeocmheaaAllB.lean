/- A row appended to an own matrix, with the frame told. -/
import Derived.Test.YtacmabdeocmheaaApp
import Derived.Test.YtacmabdeocmheaaMatB
namespace Go.Proofs.Ytacmabdeocmheaa
open Go.RowKit

set_option maxRecDepth 100000 in
theorem wpList_appSF {ops : Array Oper} {rest : List Oper} {o : Oper} {a : Act} {Q : Exit → Act → World → Prop} (W0 w0 w3 : World) (hgd : o.guard = none) (s x : Operand)
    (ho : o.op = .call { callee := .builtin .append, args := #[s, x], argTypes := #[56, 56] }) (v : Value) (xss : List (List Int)) (u : Value) (xs : List Int) (hs : a.eval s = v)
    (hown : OwnSS w0 W0.heap.size v xss) (hW0 : Ext W0 w0) (hw : Ext w0 w3) (hu : OwnI w3 w0.heap.size u xs)
    (hx : a.eval x = .slice (some ⟨w3.heap.size, 0, none⟩) 1 1) (hlen : xss.length ≤ 2000000)
    (h : ∀ v' w', OwnSS w' W0.heap.size v' (xss ++ [xs]) → Ext W0 w' → w3.grownBy w' v.ownBlock → Fresh w3 v v' → wpList Try.prog ops Q rest (a.put o.dst v') w') : wpList Try.prog ops Q (o :: rest) a (w3.alloc (.cells #[u] 50)) := by
  obtain ⟨i0, hi, hz0, hz1, hz2⟩ := info_parts info_row
  obtain ⟨cs, h1, h2, h3, h4⟩ := hown
  have h1a := ownsRow_ext h1 (hw.alloc (.cells #[u] 50))
  have hW3 : Ext W0 (w3.alloc (.cells #[u] 50)) := (hW0.trans hw).alloc _
  obtain ⟨v', w', hr, h5, h6, hfr⟩ := run_append_fresh (P := Try.prog) (w3.alloc (.cells #[u] 50)) W0.heap.size 56 o.type 50 i0 (.slice none 0 0) 1 24 Try.underlying56 hi hz0 hz1 hz2 rfl (by decide) v cs.length _ h1a ⟨w3.heap.size, 0, none⟩ 1 1 [u] rfl
    (fun j z hj => by
      match j, hj with
      | 0, hj => simp at hj; subst hj; simp [Addr.add])
    (fun z hz => by simp at hz; subst hz; exact hu.slice) (by decide) (by unfold maxLen; omega) (by omega) hW3.size
  refine wpList_plain hgd fun K hK => ?_
  unfold Oper.wp execOp
  simp only [ho, resolve, invoke, builtin, Sem.run_bind, Sem.run_pure, Result.andThen_ok, List.map_toArray, List.map_cons, List.map_nil, hs, hx, hr]
  refine hK _ _ ?_
  · have hgz : w3.grownBy w' v.ownBlock := ⟨h6.os, h6.tape, h6.output, Nat.le_trans (by simp) h6.size, fun k hk hne => (h6.block k (by simp; omega) hne).trans (Below.block (Ext.new w3 (.cells #[u] 50)) k hk)⟩
    have hfz : Fresh w3 v v' := by
      rcases hfr with hfr | hfr
      · exact .inl hfr
      · exact .inr (fun k hk => by have := hfr k hk; simp at this; omega)
    have huw := hu.ext (Ext.new w3 (.cells #[u] 50))
    refine h v' w' ⟨cs ++ [u], by simpa using h5, by simp [h2], fun j ys hy => ?_, fun i j z z' k hne hz hz' hk => ?_⟩ (hW3.grown h6 (ownsRow_block h1a)) hgz hfz
    · rcases Nat.lt_or_ge j xss.length with hlt | hge
      · rw [List.getElem?_append_left hlt] at hy
        obtain ⟨z, hz, hO⟩ := h3 j ys hy
        refine ⟨z, by rw [List.getElem?_append_left (by omega)]; exact hz, ?_⟩
        have hO' := hO.ext (hw.alloc (.cells #[u] 50))
        exact hO'.keepRow h6 (own_ne' hO' h1a)
      · rw [List.getElem?_append_right hge] at hy
        have hj : j - xss.length = 0 := by have := lt_of_at hy; simp at this; omega
        rw [hj] at hy
        simp at hy
        subst hy
        refine ⟨u, by rw [List.getElem?_append_right (by omega), h2, hj]; rfl, ?_⟩
        exact (huw.keepRow h6 (own_ne' huw h1a)).base hW0.size
    · have low : ∀ (i : Nat) (z : Value) (k : Nat), cs[i]? = some z → z.ownBlock = some k → k < w0.heap.size := fun i z k hz hk => by
        obtain ⟨ys, hy⟩ := at_of_lt (xs := xss) (k := i) (by have := lt_of_at hz; omega)
        obtain ⟨z', hz', hO⟩ := h3 i ys hy
        rw [hz] at hz'
        injection hz' with hz'
        subst hz'
        exact (World.ownsRow.lt hO k hk).2
      have new : ∀ k, u.ownBlock = some k → w0.heap.size ≤ k := fun k hk => (World.ownsRow.lt hu k hk).1
      rcases Nat.lt_or_ge i cs.length with hil | hil
      · rw [List.getElem?_append_left hil] at hz
        rcases Nat.lt_or_ge j cs.length with hjl | hjl
        · rw [List.getElem?_append_left hjl] at hz'
          exact h4 i j z z' k hne hz hz' hk
        · rw [List.getElem?_append_right hjl] at hz'
          have hj : j - cs.length = 0 := by have := lt_of_at hz'; simp at this; omega
          rw [hj] at hz'
          simp at hz'
          subst hz'
          intro e
          have := low i z k hz hk
          have := new k e
          omega
      · rw [List.getElem?_append_right hil] at hz
        have hi0 : i - cs.length = 0 := by have := lt_of_at hz; simp at this; omega
        rw [hi0] at hz
        simp at hz
        subst hz
        rcases Nat.lt_or_ge j cs.length with hjl | hjl
        · rw [List.getElem?_append_left hjl] at hz'
          intro e
          have := low j z' k hz' e
          have := new k hk
          omega
        · rw [List.getElem?_append_right hjl] at hz'
          have hj0 : j - cs.length = 0 := by have := lt_of_at hz'; simp at this; omega
          omega

end Go.Proofs.Ytacmabdeocmheaa
