/- Drawn regions in an order of one's own, with a place where either of two operations may come next. Drawn regions with a fork, a step that writes, and steps that may come late. SeatsFor of the program. -/
import Derived.Test.YthiojkpoeejkaaaCa0
import Derived.Test.YthiojkpoeejkaaaCa22
import Derived.Test.YthiojkpoeejkaaaCa3
namespace Go.Proofs.Ythiojkpoeejkaaa
open Go.RowKit

section
variable {P : Program} {ops : Array Oper}
/-- What is to be shown of a region when some of its operations are done: a list of places leads through the rest. -/
def wpZ (P : Program) (ops : Array Oper) (Q : Act → World → Prop) (is : List Nat) (listed : Array Bool) (W : World) (a : Act) : Prop :=
  Region.noSelect ops = true → Closed .any ops listed → ordB ops is listed = true → wpAnyX P .any ops Q is.length listed W a
set_option maxRecDepth 100000 in
theorem wp_region_Z {id : Nat} {Q : Exit → Act → World → Prop} {a : Act} {w : World} {l : List Oper} (is : List Nat) (hm : P.follows .mixedOrders = true) (hlen : is.length = l.length)
    (hB : (Region.noSelect l.toArray && ordB l.toArray is (Array.replicate l.length false)) = true)
    (h : wpZ P l.toArray (fun a' w' => Q .normal a' w') is (Array.replicate l.length false) w a) : (Code.region id l.toArray true).wp P Q a w := by
  simp only [Bool.and_eq_true] at hB
  have h1 := (h hB.1 (Closed.start _ _ _) hB.2).mono _ _ ((Ext.refl w).drew)
  rw [hlen] at h1
  exact wp_region_any hm (wpAny_of_X (fun _ _ h => h) _ _ _ _ (by simpa using h1))
set_option maxRecDepth 100000 in
theorem wpZ_nil {Q : Act → World → Prop} {listed : Array Bool} {W : World} {a : Act} (h : ∀ w, Ext W w → Q a w) : wpZ P ops Q [] listed W a := fun _ _ hB => ⟨by simpa [ordB] using hB, h⟩
set_option maxRecDepth 100000 in
theorem wpZ_stepQ {Q : Act → World → Prop} {o : Oper} {i : Nat} {rest : List Nat} {listed : Array Bool} {W : World} {a : Act} (h0 : ops[i]? = some o)
    (h : ∀ K : Act → Prop, (∀ a, wpZ P ops Q rest (listed.setIfInBounds i true) W a → K a) → if Region.wanted o (yielded ops a.tmps) then ∃ v, QX P W o a v ∧ K (a.put o.dst v) else K (a.put o.dst undef)) : wpZ P ops Q (i :: rest) listed W a := by
  intro hs hcl hB
  simp only [ordB, Bool.and_eq_true] at hB
  obtain ⟨⟨hr, hf⟩, hB'⟩ := hB
  have hcl' := hcl.set (j := i) (by simpa using hr)
  have h1 := h _ (fun _ h => h)
  by_cases hw : Region.wanted o (yielded ops a.tmps) = true
  · simp only [hw, if_true] at h1
    obtain ⟨v, hq, hK⟩ := h1
    exact wpAnyX_first h0 (Region.noSelect_spec hs) rest.length _ W a (Region.free_spec h0 hf) hcl (by simpa using hr) (.inl ⟨hw, hq⟩) (hK hs hcl' hB')
  · simp only [hw] at h1
    exact wpAnyX_first h0 (Region.noSelect_spec hs) rest.length _ W a (Region.free_spec h0 hf) hcl (by simpa using hr) (.inr ⟨by simpa using hw, rfl⟩) (h1 hs hcl' hB')
set_option maxRecDepth 100000 in
/-- One operation that only adds memory. -/
theorem wpZ_do {Q : Act → World → Prop} {o : Oper} {i : Nat} {rest : List Nat} {listed : Array Bool} {W : World} {a : Act} (h0 : ops[i]? = some o)
    (h : ∀ K : World → Act → Prop, (∀ W a, wpZ P ops Q rest (listed.setIfInBounds i true) W a → K W a) → ∀ w, Ext W w →
      if Region.wanted o (yielded ops a.tmps) then o.wp P a w (fun a' w' => Ext w w' ∧ K w' a') NoExit else K w (a.put o.dst undef)) :
    ∀ w, Ext W w → wpOp P ops NoExit i (fun a' w' => Ext w w' ∧ wpZ P ops Q rest (listed.setIfInBounds i true) w' a') a w := by
  intro w hw'
  have h1 := h _ (fun _ _ h => h) w hw'
  unfold wpOp
  simp only [h0]
  by_cases hw : Region.wanted o (yielded ops a.tmps) = true
  · simp only [hw, if_true] at h1 ⊢
    exact .inl h1
  · simp only [hw] at h1 ⊢
    exact ⟨Ext.refl _, h1⟩
set_option maxRecDepth 100000 in
theorem wpZ_stepS {Q : Act → World → Prop} {o : Oper} {i : Nat} {rest : List Nat} {listed : Array Bool} {W : World} {a : Act} (h0 : ops[i]? = some o) (hs : (Region.ready .any ops listed == [i]) = true)
    (h : ∀ K : World → Act → Prop, (∀ W a, wpZ P ops Q rest (listed.setIfInBounds i true) W a → K W a) → ∀ w, Ext W w →
      if Region.wanted o (yielded ops a.tmps) then o.wp P a w (fun a' w' => Ext w w' ∧ K w' a') NoExit else K w (a.put o.dst undef)) : wpZ P ops Q (i :: rest) listed W a := by
  intro hn hcl hB
  have hs := eq_of_beq hs
  simp only [ordB, Bool.and_eq_true] at hB
  obtain ⟨⟨hr, hf⟩, hB'⟩ := hB
  have hcl' := hcl.set (j := i) (by simpa using hr)
  refine ⟨fun h => (by rw [h] at hs; cases hs), fun j hj w hw => ?_⟩
  have hik : j = i := by rw [hs] at hj; simpa using hj
  subst hik
  exact wpOp_mono (fun a' w' h3 => .inl ⟨h3.1, h3.2 hn hcl' hB'⟩) (wpZ_do h0 h w hw)
set_option maxRecDepth 100000 in
/-- Either of two operations may be next. -/
theorem wpZ_stepF {Q : Act → World → Prop} {o o2 : Oper} {i : Nat} {rest : List Nat} {listed : Array Bool} {W : World} {a : Act} (j : Nat) (rest2 : List Nat) (h0 : ops[i]? = some o) (h02 : ops[j]? = some o2)
    (hs : (Region.ready .any ops listed == [i, j]) = true) (hl : rest2.length = rest.length) (hB2 : ordB ops rest2 (listed.setIfInBounds j true) = true)
    (h : ∀ K : World → Act → Prop, (∀ W a, wpZ P ops Q rest (listed.setIfInBounds i true) W a → K W a) → ∀ w, Ext W w →
      if Region.wanted o (yielded ops a.tmps) then o.wp P a w (fun a' w' => Ext w w' ∧ K w' a') NoExit else K w (a.put o.dst undef))
    (h2 : ∀ K : World → Act → Prop, (∀ W a, wpZ P ops Q rest2 (listed.setIfInBounds j true) W a → K W a) → ∀ w, Ext W w →
      if Region.wanted o2 (yielded ops a.tmps) then o2.wp P a w (fun a' w' => Ext w w' ∧ K w' a') NoExit else K w (a.put o2.dst undef)) : wpZ P ops Q (i :: rest) listed W a := by
  intro hn hcl hB
  have hs := eq_of_beq hs
  simp only [ordB, Bool.and_eq_true] at hB
  obtain ⟨⟨hr, hf⟩, hB'⟩ := hB
  have hcl' := hcl.set (j := i) (by simpa using hr)
  have hcl2 := hcl.set (j := j) (by rw [hs]; simp)
  refine ⟨fun h => (by rw [h] at hs; cases hs), fun k hk w hw => ?_⟩
  rw [hs] at hk
  rcases List.mem_cons.1 hk with rfl | hk
  · exact wpOp_mono (fun a' w' h3 => .inl ⟨h3.1, h3.2 hn hcl' hB'⟩) (wpZ_do h0 h w hw)
  · have hkj : k = j := by simpa using hk
    subst hkj
    refine wpOp_mono (fun a' w' h3 => .inl ⟨h3.1, ?_⟩) (wpZ_do h02 h2 w hw)
    rw [← hl]
    exact h3.2 hn hcl2 hB2
set_option maxRecDepth 100000 in
theorem wpZ_stepL {Q : Act → World → Prop} {o : Oper} {i : Nat} {rest : List Nat} {listed : Array Bool} {W : World} {a : Act} (h0 : ops[i]? = some o) (hs : (Region.ready .any ops listed == [i]) = true) (hl : lastB .any ops i = true)
    (he : (Region.ready .any ops (listed.setIfInBounds i true)).isEmpty = true)
    (h : ∀ K : Act → World → Prop, (∀ a w, Q a w → K a w) → ∀ w, Ext W w → if Region.wanted o (yielded ops a.tmps) then o.wp P a w K NoExit else K (a.put o.dst undef) w) : wpZ P ops Q (i :: rest) listed W a := by
  intro hn hcl hB
  have hs := eq_of_beq hs
  refine ⟨fun h => (by rw [h] at hs; cases hs), fun j hj w hw' => ?_⟩
  have hik : j = i := by rw [hs] at hj; simpa using hj
  subst hik
  have h1 := h _ (fun _ _ h => h) w hw'
  have key : wpOp P ops NoExit j (fun a' w' => Q a' w') a w := by
    unfold wpOp
    simp only [h0]
    by_cases hw : Region.wanted o (yielded ops a.tmps) = true
    · simp only [hw, if_true] at h1 ⊢
      exact .inl h1
    · simp only [hw] at h1 ⊢
      exact h1
  exact wpOp_mono (fun a' w' h3 => .inr (.inl ⟨hl, List.isEmpty_iff.1 he, h3⟩)) key
end

section
variable {P : Program} {ops : Array Oper} {H : Nat} {late : List Nat}
/-- What is to be shown of a region when some of its operations are done: a list of places leads through the rest. -/
def wpY (P : Program) (ops : Array Oper) (H : Nat) (late : List Nat) (Q : Act → World → Prop) (is : List Nat) (listed : Array Bool) (W : World) (a : Act) : Prop :=
  Region.noSelect ops = true → Closed .any ops listed → ordB ops is listed = true → wpAnyK P .any ops H late Q is.length listed W a
set_option maxRecDepth 100000 in
theorem wp_region_Y {id : Nat} {Q : Exit → Act → World → Prop} {a : Act} {w : World} {l : List Oper} (is : List Nat) (H : Nat) (late : List Nat) (hm : P.follows .mixedOrders = true) (hlen : is.length = l.length)
    (hB : (Region.noSelect l.toArray && ordB l.toArray is (Array.replicate l.length false)) = true)
    (h : wpY P l.toArray H late (fun a' w' => Q .normal a' w') is (Array.replicate l.length false) w a) : (Code.region id l.toArray true).wp P Q a w := by
  simp only [Bool.and_eq_true] at hB
  have h1 := (h hB.1 (Closed.start _ _ _) hB.2).mono _ _ ((Ext.refl w).drew)
  rw [hlen] at h1
  exact wp_region_any hm (wpAny_of_K (fun _ _ h => h) _ _ _ _ (by simpa using h1))
set_option maxRecDepth 100000 in
theorem wpY_nil {Q : Act → World → Prop} {listed : Array Bool} {W : World} {a : Act} (h : ∀ w, Ext W w → Q a w) : wpY P ops H late Q [] listed W a := fun _ _ hB => ⟨by simpa [ordB] using hB, h⟩
set_option maxRecDepth 100000 in
theorem wpY_stepQ {Q : Act → World → Prop} {o : Oper} {i : Nat} {rest : List Nat} {listed : Array Bool} {W : World} {a : Act} (h0 : ops[i]? = some o) (hl : late.contains i = false)
    (h : ∀ K : Act → Prop, (∀ a, wpY P ops H late Q rest (listed.setIfInBounds i true) W a → K a) → if Region.wanted o (yielded ops a.tmps) then ∃ v, QX P W o a v ∧ K (a.put o.dst v) else K (a.put o.dst undef)) : wpY P ops H late Q (i :: rest) listed W a := by
  intro hs hcl hB
  simp only [ordB, Bool.and_eq_true] at hB
  obtain ⟨⟨hr, hf⟩, hB'⟩ := hB
  have hcl' := hcl.set (j := i) (by simpa using hr)
  have h1 := h _ (fun _ h => h)
  have hno : ∀ {X : Prop}, late.contains i = true → X := fun h => by rw [hl] at h; cases h
  by_cases hw : Region.wanted o (yielded ops a.tmps) = true
  · simp only [hw, if_true] at h1
    obtain ⟨v, hq, hK⟩ := h1
    exact wpAnyK_first h0 (Region.noSelect_spec hs) rest.length _ W a (Region.free_spec h0 hf) hcl (by simpa using hr) ⟨.inl ⟨hw, hq⟩, fun h => hno h⟩ (hK hs hcl' hB')
  · simp only [hw] at h1
    exact wpAnyK_first h0 (Region.noSelect_spec hs) rest.length _ W a (Region.free_spec h0 hf) hcl (by simpa using hr) ⟨.inr ⟨by simpa using hw, rfl⟩, fun h => hno h⟩ (h1 hs hcl' hB')
set_option maxRecDepth 100000 in
theorem wpY_stepQL {Q : Act → World → Prop} {o : Oper} {i : Nat} {rest : List Nat} {listed : Array Bool} {W : World} {a : Act} (v : Value) (h0 : ops[i]? = some o) (hg : o.guard = none) (hq : QK P H W o a v)
    (h : ∀ K : Act → Prop, (∀ a, wpY P ops H late Q rest (listed.setIfInBounds i true) W a → K a) → K (a.put o.dst v)) : wpY P ops H late Q (i :: rest) listed W a := by
  intro hs hcl hB
  simp only [ordB, Bool.and_eq_true] at hB
  obtain ⟨⟨hr, hf⟩, hB'⟩ := hB
  have hcl' := hcl.set (j := i) (by simpa using hr)
  have hw : Region.wanted o (yielded ops a.tmps) = true := by simp [Region.wanted, hg]
  have hy : YK P ops H W o v a := .inl ⟨hw, hq⟩
  exact wpAnyK_first h0 (Region.noSelect_spec hs) rest.length _ W a (Region.free_spec h0 hf) hcl (by simpa using hr) ⟨hy.yx, fun _ => hy⟩ (h _ (fun _ h => h) hs hcl' hB')
set_option maxRecDepth 100000 in
/-- One operation that only adds memory. -/
theorem wpY_do {Q : Act → World → Prop} {o : Oper} {i : Nat} {rest : List Nat} {listed : Array Bool} {a : Act} {W : World} (h0 : ops[i]? = some o)
    (h : ∀ K : World → Act → Prop, (∀ W a, wpY P ops H late Q rest (listed.setIfInBounds i true) W a → K W a) → ∀ w, Ext W w →
      if Region.wanted o (yielded ops a.tmps) then o.wp P a w (fun a' w' => Ext w w' ∧ K w' a') NoExit else K w (a.put o.dst undef)) :
    ∀ w, Ext W w → wpOp P ops NoExit i (fun a' w' => Ext w w' ∧ wpY P ops H late Q rest (listed.setIfInBounds i true) w' a') a w := by
  intro w hw'
  have h1 := h _ (fun _ _ h => h) w hw'
  unfold wpOp
  simp only [h0]
  by_cases hw : Region.wanted o (yielded ops a.tmps) = true
  · simp only [hw, if_true] at h1 ⊢
    exact .inl h1
  · simp only [hw] at h1 ⊢
    exact ⟨Ext.refl _, h1⟩
set_option maxRecDepth 100000 in
theorem wpY_stepS {Q : Act → World → Prop} {o : Oper} {i : Nat} {rest : List Nat} {listed : Array Bool} {W : World} {a : Act} (h0 : ops[i]? = some o) (hs : (Region.ready .any ops listed == [i]) = true)
    (h : ∀ K : World → Act → Prop, (∀ W a, wpY P ops H late Q rest (listed.setIfInBounds i true) W a → K W a) → ∀ w, Ext W w →
      if Region.wanted o (yielded ops a.tmps) then o.wp P a w (fun a' w' => Ext w w' ∧ K w' a') NoExit else K w (a.put o.dst undef)) : wpY P ops H late Q (i :: rest) listed W a := by
  intro hn hcl hB
  have hs := eq_of_beq hs
  simp only [ordB, Bool.and_eq_true] at hB
  obtain ⟨⟨hr, hf⟩, hB'⟩ := hB
  have hcl' := hcl.set (j := i) (by simpa using hr)
  refine ⟨fun h => (by rw [h] at hs; cases hs), fun j hj w hw => ?_⟩
  have hik : j = i := by rw [hs] at hj; simpa using hj
  subst hik
  exact wpOp_mono (fun a' w' h3 => .inl ⟨h3.1, h3.2 hn hcl' hB'⟩) (wpY_do h0 h w hw)
set_option maxRecDepth 100000 in
/-- Either of two operations may be next. -/
theorem wpY_stepF {Q : Act → World → Prop} {o o2 : Oper} {i : Nat} {rest : List Nat} {listed : Array Bool} {W : World} {a : Act} (j : Nat) (rest2 : List Nat) (h0 : ops[i]? = some o) (h02 : ops[j]? = some o2)
    (hs : (Region.ready .any ops listed == [i, j]) = true) (hl : rest2.length = rest.length) (hB2 : ordB ops rest2 (listed.setIfInBounds j true) = true)
    (h : ∀ K : World → Act → Prop, (∀ W a, wpY P ops H late Q rest (listed.setIfInBounds i true) W a → K W a) → ∀ w, Ext W w →
      if Region.wanted o (yielded ops a.tmps) then o.wp P a w (fun a' w' => Ext w w' ∧ K w' a') NoExit else K w (a.put o.dst undef))
    (h2 : ∀ K : World → Act → Prop, (∀ W a, wpY P ops H late Q rest2 (listed.setIfInBounds j true) W a → K W a) → ∀ w, Ext W w →
      if Region.wanted o2 (yielded ops a.tmps) then o2.wp P a w (fun a' w' => Ext w w' ∧ K w' a') NoExit else K w (a.put o2.dst undef)) : wpY P ops H late Q (i :: rest) listed W a := by
  intro hn hcl hB
  have hs := eq_of_beq hs
  simp only [ordB, Bool.and_eq_true] at hB
  obtain ⟨⟨hr, hf⟩, hB'⟩ := hB
  have hcl' := hcl.set (j := i) (by simpa using hr)
  have hcl2 := hcl.set (j := j) (by rw [hs]; simp)
  refine ⟨fun h => (by rw [h] at hs; cases hs), fun k hk w hw => ?_⟩
  rw [hs] at hk
  rcases List.mem_cons.1 hk with rfl | hk
  · exact wpOp_mono (fun a' w' h3 => .inl ⟨h3.1, h3.2 hn hcl' hB'⟩) (wpY_do h0 h w hw)
  · have hkj : k = j := by simpa using hk
    subst hkj
    refine wpOp_mono (fun a' w' h3 => .inl ⟨h3.1, ?_⟩) (wpY_do h02 h2 w hw)
    rw [← hl]
    exact h3.2 hn hcl2 hB2
set_option maxRecDepth 100000 in
/-- One that stands before or behind every other one, moves and late ones aside, and may write outside block H. -/
theorem wpY_stepC {Q : Act → World → Prop} {o : Oper} {i : Nat} {rest : List Nat} {listed : Array Bool} {W : World} {a : Act} (h0 : ops[i]? = some o) (hs : (Region.ready .any ops listed == [i]) = true) (hc : cutKB .any ops late i = true)
    (h : ∀ K : World → Act → Prop, (∀ W a, wpY P ops H late Q rest (listed.setIfInBounds i true) W a → K W a) → ∀ w, Ext W w →
      if Region.wanted o (yielded ops a.tmps) then o.wp P a w (fun a' w' => Sam H w w' ∧ K w' a') NoExit else K w (a.put o.dst undef)) : wpY P ops H late Q (i :: rest) listed W a := by
  intro hn hcl hB
  have hs := eq_of_beq hs
  simp only [ordB, Bool.and_eq_true] at hB
  obtain ⟨⟨hr, hf⟩, hB'⟩ := hB
  have hcl' := hcl.set (j := i) (by simpa using hr)
  refine ⟨fun h => (by rw [h] at hs; cases hs), fun j hj w hw' => ?_⟩
  have hik : j = i := by rw [hs] at hj; simpa using hj
  subst hik
  have h1 := h _ (fun _ _ h => h) w hw'
  have key : wpOp P ops NoExit j (fun a' w' => Sam H w w' ∧ wpY P ops H late Q rest (listed.setIfInBounds j true) w' a') a w := by
    unfold wpOp
    simp only [h0]
    by_cases hw : Region.wanted o (yielded ops a.tmps) = true
    · simp only [hw, if_true] at h1 ⊢
      exact .inl h1
    · simp only [hw] at h1 ⊢
      exact ⟨Sam.refl _ _, h1⟩
  exact wpOp_mono (fun a' w' h3 => .inr (.inr ⟨hc, h3.1, h3.2 hn hcl' hB'⟩)) key
end

set_option maxRecDepth 100000 in
set_option maxHeartbeats 1000000 in
theorem seatsA_impl (w : World) (sz : Int) (a : Option Addr) (c : Nat) (bs : List (Int × Int)) (set ballot : Int) (hR : RdP w a bs) (hl : bs.length ≤ 2000000) :
    Calls Try.prog 22 #[.agg #[.int .i64 sz, .slice a bs.length c], .int .i64 set, .int .i64 ballot] w fun e w' => e = .returned (.int .i64 (seatsFor sz bs set ballot)) ∧ Ext w w' := by
  have q0 := new0 w (.int .i64 sz) [.slice a bs.length c] 25
  have q1 := new1 w (.int .i64 sz) (.slice a bs.length c) [] 25
  cases h1 : appOk sz bs
  · go_enter Try.func22, Try.ntmps22
    go_wp2_with (first | (go_at_call 16; refine (ok_impl _ _ _ _ _ (hR.ext (by repeat (first | exact Ext.refl _ | assumption | refine Ext.alloc ?_ _ | refine Ext.drew ?_ | refine Ext.trans ?_ (by assumption))))).mono ?_; rintro e w1 ⟨rfl, hw1⟩; have q0 := Ext.keep (w' := w1) (by repeat (first | exact Ext.refl _ | assumption | refine Ext.alloc ?_ _ | refine Ext.drew ?_ | refine Ext.trans ?_ (by assumption))) q0; have q1 := Ext.keep (w' := w1) (by repeat (first | exact Ext.refl _ | assumption | refine Ext.alloc ?_ _ | refine Ext.drew ?_ | refine Ext.trans ?_ (by assumption))) q1))
    go_ret
    exact ⟨ret_int (by simp [seatsFor, h1]), (by repeat (first | exact Ext.refl _ | assumption | refine Ext.alloc ?_ _ | refine Ext.drew ?_ | refine Ext.trans ?_ (by assumption)))⟩
  · obtain ⟨hlo, hhi⟩ := ok_size h1
    have htop := top_wrap64 hlo hhi
    have ht := top_le hlo hhi
    cases h2 : inR set 0 (topOf sz)
    · go_enter Try.func22, Try.ntmps22
      go_wp2_with (first | (go_at_call 16; refine (ok_impl _ _ _ _ _ (hR.ext (by repeat (first | exact Ext.refl _ | assumption | refine Ext.alloc ?_ _ | refine Ext.drew ?_ | refine Ext.trans ?_ (by assumption))))).mono ?_; rintro e w1 ⟨rfl, hw1⟩; have q0 := Ext.keep (w' := w1) (by repeat (first | exact Ext.refl _ | assumption | refine Ext.alloc ?_ _ | refine Ext.drew ?_ | refine Ext.trans ?_ (by assumption))) q0; have q1 := Ext.keep (w' := w1) (by repeat (first | exact Ext.refl _ | assumption | refine Ext.alloc ?_ _ | refine Ext.drew ?_ | refine Ext.trans ?_ (by assumption))) q1) | (go_at_call 97; refine (has_impl _ _ _ _ hlo hhi).mono ?_; rintro e w1 ⟨rfl, hw1⟩; have q0 := Ext.keep (w' := w1) (by repeat (first | exact Ext.refl _ | assumption | refine Ext.alloc ?_ _ | refine Ext.drew ?_ | refine Ext.trans ?_ (by assumption))) q0; have q1 := Ext.keep (w' := w1) (by repeat (first | exact Ext.refl _ | assumption | refine Ext.alloc ?_ _ | refine Ext.drew ?_ | refine Ext.trans ?_ (by assumption))) q1) | (go_at_call 94; refine (in_impl _ _ _ _).mono ?_; rintro e w1 ⟨rfl, hw1⟩))
      go_ret
      exact ⟨ret_int (by simp [seatsFor, h2]), (by repeat (first | exact Ext.refl _ | assumption | refine Ext.alloc ?_ _ | refine Ext.drew ?_ | refine Ext.trans ?_ (by assumption)))⟩
    obtain ⟨s0, s1⟩ := inR_iff.1 h2
    cases h3 : inR ballot 0 (bs.length - 1)
    · go_enter Try.func22, Try.ntmps22
      go_wp2_with (first | (go_at_call 16; refine (ok_impl _ _ _ _ _ (hR.ext (by repeat (first | exact Ext.refl _ | assumption | refine Ext.alloc ?_ _ | refine Ext.drew ?_ | refine Ext.trans ?_ (by assumption))))).mono ?_; rintro e w1 ⟨rfl, hw1⟩; have q0 := Ext.keep (w' := w1) (by repeat (first | exact Ext.refl _ | assumption | refine Ext.alloc ?_ _ | refine Ext.drew ?_ | refine Ext.trans ?_ (by assumption))) q0; have q1 := Ext.keep (w' := w1) (by repeat (first | exact Ext.refl _ | assumption | refine Ext.alloc ?_ _ | refine Ext.drew ?_ | refine Ext.trans ?_ (by assumption))) q1) | (go_at_call 97; refine (has_impl _ _ _ _ hlo hhi).mono ?_; rintro e w1 ⟨rfl, hw1⟩; have q0 := Ext.keep (w' := w1) (by repeat (first | exact Ext.refl _ | assumption | refine Ext.alloc ?_ _ | refine Ext.drew ?_ | refine Ext.trans ?_ (by assumption))) q0; have q1 := Ext.keep (w' := w1) (by repeat (first | exact Ext.refl _ | assumption | refine Ext.alloc ?_ _ | refine Ext.drew ?_ | refine Ext.trans ?_ (by assumption))) q1) | (go_at_call 94; refine (in_impl _ _ _ _).mono ?_; rintro e w1 ⟨rfl, hw1⟩))
      go_ret
      exact ⟨ret_int (by simp [seatsFor, h3]), (by repeat (first | exact Ext.refl _ | assumption | refine Ext.alloc ?_ _ | refine Ext.drew ?_ | refine Ext.trans ?_ (by assumption)))⟩
    obtain ⟨b0, b1⟩ := inR_iff.1 h3
    obtain ⟨k, rfl⟩ : ∃ k : Nat, ballot = (k : Int) := ⟨ballot.toNat, by omega⟩
    have hlt : k < bs.length := by omega
    obtain ⟨x, hx⟩ := at_of_lt hlt
    obtain ⟨b, off, rfl, c0, c1⟩ := hR.at_ hx
    obtain ⟨x0, x1, x2, _, _⟩ := ok_at h1 (List.mem_of_getElem? hx)
    obtain ⟨l0, l1⟩ := landI_bd s0 (by omega) x0 x2
    unfold landI at l0 l1
    go_enter Try.func22, Try.ntmps22
    go_wp2_with (first | (go_at_call 16; refine (ok_impl _ _ _ _ _ (hR.ext (by repeat (first | exact Ext.refl _ | assumption | refine Ext.alloc ?_ _ | refine Ext.drew ?_ | refine Ext.trans ?_ (by assumption))))).mono ?_; rintro e w1 ⟨rfl, hw1⟩; have q0 := Ext.keep (w' := w1) (by repeat (first | exact Ext.refl _ | assumption | refine Ext.alloc ?_ _ | refine Ext.drew ?_ | refine Ext.trans ?_ (by assumption))) q0; have q1 := Ext.keep (w' := w1) (by repeat (first | exact Ext.refl _ | assumption | refine Ext.alloc ?_ _ | refine Ext.drew ?_ | refine Ext.trans ?_ (by assumption))) q1; have c0 := Ext.keep (w' := w1) (by repeat (first | exact Ext.refl _ | assumption | refine Ext.alloc ?_ _ | refine Ext.drew ?_ | refine Ext.trans ?_ (by assumption))) c0; have c1 := Ext.keep (w' := w1) (by repeat (first | exact Ext.refl _ | assumption | refine Ext.alloc ?_ _ | refine Ext.drew ?_ | refine Ext.trans ?_ (by assumption))) c1) | (go_at_call 97; refine (has_impl _ _ _ _ hlo hhi).mono ?_; rintro e w1 ⟨rfl, hw1⟩; have q0 := Ext.keep (w' := w1) (by repeat (first | exact Ext.refl _ | assumption | refine Ext.alloc ?_ _ | refine Ext.drew ?_ | refine Ext.trans ?_ (by assumption))) q0; have q1 := Ext.keep (w' := w1) (by repeat (first | exact Ext.refl _ | assumption | refine Ext.alloc ?_ _ | refine Ext.drew ?_ | refine Ext.trans ?_ (by assumption))) q1; have c0 := Ext.keep (w' := w1) (by repeat (first | exact Ext.refl _ | assumption | refine Ext.alloc ?_ _ | refine Ext.drew ?_ | refine Ext.trans ?_ (by assumption))) c0; have c1 := Ext.keep (w' := w1) (by repeat (first | exact Ext.refl _ | assumption | refine Ext.alloc ?_ _ | refine Ext.drew ?_ | refine Ext.trans ?_ (by assumption))) c1) | (go_at_call 94; refine (in_impl _ _ _ _).mono ?_; rintro e w1 ⟨rfl, hw1⟩; have q0 := Ext.keep (w' := w1) (by repeat (first | exact Ext.refl _ | assumption | refine Ext.alloc ?_ _ | refine Ext.drew ?_ | refine Ext.trans ?_ (by assumption))) q0; have q1 := Ext.keep (w' := w1) (by repeat (first | exact Ext.refl _ | assumption | refine Ext.alloc ?_ _ | refine Ext.drew ?_ | refine Ext.trans ?_ (by assumption))) q1; have c0 := Ext.keep (w' := w1) (by repeat (first | exact Ext.refl _ | assumption | refine Ext.alloc ?_ _ | refine Ext.drew ?_ | refine Ext.trans ?_ (by assumption))) c0; have c1 := Ext.keep (w' := w1) (by repeat (first | exact Ext.refl _ | assumption | refine Ext.alloc ?_ _ | refine Ext.drew ?_ | refine Ext.trans ?_ (by assumption))) c1) | (go_at_call 23; refine (size_impl _ _ l0 l1).mono ?_; rintro e w1 ⟨rfl, hw1⟩))
    go_ret
    exact ⟨ret_int (by rw [show bits BinOp.and IntKind.i64 set x.1 = landI x.1 set from landI_comm _ _]; simp [seatsFor, h1, h2, h3, hx]), (by repeat (first | exact Ext.refl _ | assumption | refine Ext.alloc ?_ _ | refine Ext.drew ?_ | refine Ext.trans ?_ (by assumption)))⟩

end Go.Proofs.Ythiojkpoeejkaaa
