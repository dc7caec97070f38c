/- Drawn regions in an order of one's own, with a place where either of two operations may come next. -/
import Derived.Test.YtblkbdfndbpndaaGreatCk0
namespace Go.Proofs.YtblkbdfndbpndaaGreat
open Go.RowKit

section
variable {P : Program} {ops : Array Oper}
/-- What is to be shown of a region when some of its operations are done: a list of places leads through the rest. -/
def wpZ (P : Program) (ops : Array Oper) (Q : Act → World → Prop) (is : List Nat) (listed : Array Bool) (W : World) (a : Act) : Prop :=
  Region.noSelect ops = true → Closed .any ops listed → ordB ops is listed = true → wpAnyX P .any ops Q is.length listed W a
set_option maxRecDepth 100000 in
theorem wp_region_Z {id : Nat} {Q : Exit → Act → World → Prop} {a : Act} {w : World} {l : List Oper} (is : List Nat) (hm : P.follows .mixedOrders = true) (hlen : is.length = l.length)
    (hB : (Region.noSelect l.toArray && ordB l.toArray is (Array.replicate l.length false)) = true)
    (h : wpZ P l.toArray (fun a' w' => Q .normal a' w') is (Array.replicate l.length false) w a) : (Code.region id l.toArray true).wp P Q a w := by
  simp only [Bool.and_eq_true] at hB
  have h1 := (h hB.1 (Closed.start _ _ _) hB.2).mono _ _ ((Ext.refl w).drew)
  rw [hlen] at h1
  exact wp_region_any hm (wpAny_of_X (fun _ _ h => h) _ _ _ _ (by simpa using h1))
set_option maxRecDepth 100000 in
theorem wpZ_nil {Q : Act → World → Prop} {listed : Array Bool} {W : World} {a : Act} (h : ∀ w, Ext W w → Q a w) : wpZ P ops Q [] listed W a := fun _ _ hB => ⟨by simpa [ordB] using hB, h⟩
set_option maxRecDepth 100000 in
theorem wpZ_stepQ {Q : Act → World → Prop} {o : Oper} {i : Nat} {rest : List Nat} {listed : Array Bool} {W : World} {a : Act} (h0 : ops[i]? = some o)
    (h : ∀ K : Act → Prop, (∀ a, wpZ P ops Q rest (listed.setIfInBounds i true) W a → K a) → if Region.wanted o (yielded ops a.tmps) then ∃ v, QX P W o a v ∧ K (a.put o.dst v) else K (a.put o.dst undef)) : wpZ P ops Q (i :: rest) listed W a := by
  intro hs hcl hB
  simp only [ordB, Bool.and_eq_true] at hB
  obtain ⟨⟨hr, hf⟩, hB'⟩ := hB
  have hcl' := hcl.set (j := i) (by simpa using hr)
  have h1 := h _ (fun _ h => h)
  by_cases hw : Region.wanted o (yielded ops a.tmps) = true
  · simp only [hw, if_true] at h1
    obtain ⟨v, hq, hK⟩ := h1
    exact wpAnyX_first h0 (Region.noSelect_spec hs) rest.length _ W a (Region.free_spec h0 hf) hcl (by simpa using hr) (.inl ⟨hw, hq⟩) (hK hs hcl' hB')
  · simp only [hw] at h1
    exact wpAnyX_first h0 (Region.noSelect_spec hs) rest.length _ W a (Region.free_spec h0 hf) hcl (by simpa using hr) (.inr ⟨by simpa using hw, rfl⟩) (h1 hs hcl' hB')
set_option maxRecDepth 100000 in
/-- One operation that only adds memory. -/
theorem wpZ_do {Q : Act → World → Prop} {o : Oper} {i : Nat} {rest : List Nat} {listed : Array Bool} {W : World} {a : Act} (h0 : ops[i]? = some o)
    (h : ∀ K : World → Act → Prop, (∀ W a, wpZ P ops Q rest (listed.setIfInBounds i true) W a → K W a) → ∀ w, Ext W w →
      if Region.wanted o (yielded ops a.tmps) then o.wp P a w (fun a' w' => Ext w w' ∧ K w' a') NoExit else K w (a.put o.dst undef)) :
    ∀ w, Ext W w → wpOp P ops NoExit i (fun a' w' => Ext w w' ∧ wpZ P ops Q rest (listed.setIfInBounds i true) w' a') a w := by
  intro w hw'
  have h1 := h _ (fun _ _ h => h) w hw'
  unfold wpOp
  simp only [h0]
  by_cases hw : Region.wanted o (yielded ops a.tmps) = true
  · simp only [hw, if_true] at h1 ⊢
    exact .inl h1
  · simp only [hw] at h1 ⊢
    exact ⟨Ext.refl _, h1⟩
set_option maxRecDepth 100000 in
theorem wpZ_stepS {Q : Act → World → Prop} {o : Oper} {i : Nat} {rest : List Nat} {listed : Array Bool} {W : World} {a : Act} (h0 : ops[i]? = some o) (hs : (Region.ready .any ops listed == [i]) = true)
    (h : ∀ K : World → Act → Prop, (∀ W a, wpZ P ops Q rest (listed.setIfInBounds i true) W a → K W a) → ∀ w, Ext W w →
      if Region.wanted o (yielded ops a.tmps) then o.wp P a w (fun a' w' => Ext w w' ∧ K w' a') NoExit else K w (a.put o.dst undef)) : wpZ P ops Q (i :: rest) listed W a := by
  intro hn hcl hB
  have hs := eq_of_beq hs
  simp only [ordB, Bool.and_eq_true] at hB
  obtain ⟨⟨hr, hf⟩, hB'⟩ := hB
  have hcl' := hcl.set (j := i) (by simpa using hr)
  refine ⟨fun h => (by rw [h] at hs; cases hs), fun j hj w hw => ?_⟩
  have hik : j = i := by rw [hs] at hj; simpa using hj
  subst hik
  exact wpOp_mono (fun a' w' h3 => .inl ⟨h3.1, h3.2 hn hcl' hB'⟩) (wpZ_do h0 h w hw)
set_option maxRecDepth 100000 in
/-- Either of two operations may be next. -/
theorem wpZ_stepF {Q : Act → World → Prop} {o o2 : Oper} {i : Nat} {rest : List Nat} {listed : Array Bool} {W : World} {a : Act} (j : Nat) (rest2 : List Nat) (h0 : ops[i]? = some o) (h02 : ops[j]? = some o2)
    (hs : (Region.ready .any ops listed == [i, j]) = true) (hl : rest2.length = rest.length) (hB2 : ordB ops rest2 (listed.setIfInBounds j true) = true)
    (h : ∀ K : World → Act → Prop, (∀ W a, wpZ P ops Q rest (listed.setIfInBounds i true) W a → K W a) → ∀ w, Ext W w →
      if Region.wanted o (yielded ops a.tmps) then o.wp P a w (fun a' w' => Ext w w' ∧ K w' a') NoExit else K w (a.put o.dst undef))
    (h2 : ∀ K : World → Act → Prop, (∀ W a, wpZ P ops Q rest2 (listed.setIfInBounds j true) W a → K W a) → ∀ w, Ext W w →
      if Region.wanted o2 (yielded ops a.tmps) then o2.wp P a w (fun a' w' => Ext w w' ∧ K w' a') NoExit else K w (a.put o2.dst undef)) : wpZ P ops Q (i :: rest) listed W a := by
  intro hn hcl hB
  have hs := eq_of_beq hs
  simp only [ordB, Bool.and_eq_true] at hB
  obtain ⟨⟨hr, hf⟩, hB'⟩ := hB
  have hcl' := hcl.set (j := i) (by simpa using hr)
  have hcl2 := hcl.set (j := j) (by rw [hs]; simp)
  refine ⟨fun h => (by rw [h] at hs; cases hs), fun k hk w hw => ?_⟩
  rw [hs] at hk
  rcases List.mem_cons.1 hk with rfl | hk
  · exact wpOp_mono (fun a' w' h3 => .inl ⟨h3.1, h3.2 hn hcl' hB'⟩) (wpZ_do h0 h w hw)
  · have hkj : k = j := by simpa using hk
    subst hkj
    refine wpOp_mono (fun a' w' h3 => .inl ⟨h3.1, ?_⟩) (wpZ_do h02 h2 w hw)
    rw [← hl]
    exact h3.2 hn hcl2 hB2
set_option maxRecDepth 100000 in
theorem wpZ_stepL {Q : Act → World → Prop} {o : Oper} {i : Nat} {rest : List Nat} {listed : Array Bool} {W : World} {a : Act} (h0 : ops[i]? = some o) (hs : (Region.ready .any ops listed == [i]) = true) (hl : lastB .any ops i = true)
    (he : (Region.ready .any ops (listed.setIfInBounds i true)).isEmpty = true)
    (h : ∀ K : Act → World → Prop, (∀ a w, Q a w → K a w) → ∀ w, Ext W w → if Region.wanted o (yielded ops a.tmps) then o.wp P a w K NoExit else K (a.put o.dst undef) w) : wpZ P ops Q (i :: rest) listed W a := by
  intro hn hcl hB
  have hs := eq_of_beq hs
  refine ⟨fun h => (by rw [h] at hs; cases hs), fun j hj w hw' => ?_⟩
  have hik : j = i := by rw [hs] at hj; simpa using hj
  subst hik
  have h1 := h _ (fun _ _ h => h) w hw'
  have key : wpOp P ops NoExit j (fun a' w' => Q a' w') a w := by
    unfold wpOp
    simp only [h0]
    by_cases hw : Region.wanted o (yielded ops a.tmps) = true
    · simp only [hw, if_true] at h1 ⊢
      exact .inl h1
    · simp only [hw] at h1 ⊢
      exact h1
  exact wpOp_mono (fun a' w' h3 => .inr (.inl ⟨hl, List.isEmpty_iff.1 he, h3⟩)) key
end

end Go.Proofs.YtblkbdfndbpndaaGreat
