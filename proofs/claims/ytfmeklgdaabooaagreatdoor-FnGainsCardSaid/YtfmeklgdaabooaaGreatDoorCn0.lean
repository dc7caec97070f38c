/- A region whose order is open, walked once in the order of the text: quiet operations yield one value in every later world; an operation that alone is ready may do anything that only adds memory. Words on memory: slices that read as lists, kept as memory is added; small laws on lists and integers for the walks. -/
import Derived.Still
import Derived.Below
import Derived.WalkKit
import Derived.WalkSpells
import Derived.WalkLawsBesides
import Derived.Deep.LoopGhost
namespace Go.Proofs.YtfmeklgdaabooaaGreatDoor
open Go.RowKit

/-- w' is w with memory added. -/
def Ext (w w' : World) : Prop := Below w.heap.size w w'
set_option maxRecDepth 100000 in
theorem Ext.refl (w : World) : Ext w w := Below.refl _ _
set_option maxRecDepth 100000 in
theorem Ext.trans {a b c : World} (h : Ext a b) (k : Ext b c) : Ext a c := Below.trans h (Below.mono k h.size)
set_option maxRecDepth 100000 in
theorem Ext.drew {a w : World} (h : Ext a w) : Ext a w.drew := Below.drew h
set_option maxRecDepth 100000 in
theorem Ext.alloc {a w : World} (h : Ext a w) (o : Obj) : Ext a (w.alloc o) := Below.alloc h h.size o
set_option maxRecDepth 100000 in
theorem Ext.setCell {a w : World} (h : Ext a w) {p : Addr} (hp : a.heap.size ≤ p.block) (u : Value) : Ext a (w.setCell p u) := Below.setCell h hp u
set_option maxRecDepth 100000 in
theorem Ext.cell {w w' : World} (h : Ext w w') {p : Addr} (hp : p.block < w.heap.size) : w'.cell? p = w.cell? p := Below.cell h hp
set_option maxRecDepth 100000 in
theorem Ext.frozen {w w' : World} (h : Ext w w') {p : Addr} (hp : p.block < w.heap.size) : w'.frozen? p = w.frozen? p := Below.frozen h hp
set_option maxRecDepth 100000 in
/-- What was there reads as it did. -/
theorem Ext.cellS {w w' : World} (h : Ext w w') : ∀ p : Addr, (w.cell? p).isSome = true → w'.cell? p = w.cell? p := fun p hp => by
  obtain ⟨v, hv⟩ := Option.isSome_iff_exists.1 hp
  exact h.cell (World.block_lt_of_cell? w p hv)
set_option maxRecDepth 100000 in
theorem Ext.frozenS {w w' : World} (h : Ext w w') : ∀ p : Addr, (w.cell? p).isSome = true → w'.frozen? p = w.frozen? p := fun p hp => by
  obtain ⟨v, hv⟩ := Option.isSome_iff_exists.1 hp
  exact h.frozen (World.block_lt_of_cell? w p hv)
set_option maxRecDepth 100000 in
theorem Ext.size {w w' : World} (h : Ext w w') : w.heap.size ≤ w'.heap.size := Below.size h

section
variable {P : Program} {ops : Array Oper} {md : Region.Mode}

def NoExit : Exit → Act → World → Prop := fun _ _ _ => False

def qxUpon (P : Program) (w : World) (v : Value) : Result Next → Prop
  | .ok (.value u) w' => Ext w w' ∧ u = v
  | .ok .skip w' => Ext w w' ∧ v = undef
  | .ok (.enter f args) w' => Ext w w' ∧ Calls P f args w' (fun e w'' => e = .returned v ∧ Ext w w'')
  | _ => False

/-- In every world that grew out of W: the value v, memory only added. -/
def QX (P : Program) (W : World) (o : Oper) (a : Act) (v : Value) : Prop := ∀ w, Ext W w → qxUpon P w v ((execOp a.eval o).run P w)

def YX (P : Program) (ops : Array Oper) (W : World) (o : Oper) (v : Value) (a : Act) : Prop :=
  (Region.wanted o (yielded ops a.tmps) = true ∧ QX P W o a v) ∨ (Region.wanted o (yielded ops a.tmps) = false ∧ v = undef)

set_option maxRecDepth 100000 in
theorem YX.mono {W W' : World} {o : Oper} {v : Value} {a : Act} (h : YX P ops W o v a) (hW : Ext W W') : YX P ops W' o v a :=
  h.imp (fun ⟨h1, h2⟩ => ⟨h1, fun w hw => h2 w (hW.trans hw)⟩) id

set_option maxRecDepth 100000 in
theorem YX.of_same {W : World} {o : Oper} {v : Value} {a a' : Act} (hy : YX P ops W o v a) (he : execOp a'.eval o = execOp a.eval o)
    (hw : Region.wanted o (yielded ops a'.tmps) = Region.wanted o (yielded ops a.tmps)) : YX P ops W o v a' := by
  unfold YX QX at *
  rw [he, hw]
  exact hy

set_option maxRecDepth 100000 in
theorem YX.wpOp {i : Nat} {o : Oper} {v : Value} {a : Act} {W w : World} (hi : ops[i]? = some o) (hw : Ext W w) (hy : YX P ops W o v a)
    {K : Act → World → Prop} (h : ∀ w', Ext w w' → K (a.put o.dst v) w') : wpOp P ops NoExit i K a w := by
  unfold Go.wpOp
  simp only [hi]
  rcases hy with ⟨hwt, hv⟩ | ⟨hwt, rfl⟩
  · simp only [hwt, if_true]
    refine .inl ?_
    have h3 := hv w hw
    unfold Oper.wp
    generalize (execOp a.eval o).run P w = r at *
    cases r with
    | ok n w' =>
      cases n <;> simp only [qxUpon] at h3 <;> simp only [Oper.upon]
      case value u => obtain ⟨e1, rfl⟩ := h3; exact h _ e1
      case skip => obtain ⟨e1, rfl⟩ := h3; exact h _ e1
      case enter f args =>
        exact h3.2.mono fun e w'' ⟨he, hw''⟩ => by subst he; exact h _ hw''
    | halt x w' => simp only [qxUpon] at h3
  · simp only [hwt, Bool.false_eq_true, if_false]
    exact h _ (Ext.refl _)

/-- Operation j waits for every other one. -/
def lastB (md : Region.Mode) (ops : Array Oper) (j : Nat) : Bool :=
  match ops[j]? with
  | none => false
  | some oj => (List.range ops.size).all fun i => i == j || oj.after.any fun e => Region.binds md e && e.on == i
set_option maxRecDepth 100000 in
theorem lastB_spec {i j : Nat} {oj : Oper} (h : lastB md ops j = true) (hj : ops[j]? = some oj) (hi : i < ops.size) (hne : i ≠ j) : ∃ e ∈ oj.after, Region.binds md e = true ∧ e.on = i := by
  simp only [lastB, hj, List.all_eq_true, List.mem_range] at h
  have h1 := h i hi
  simp only [Bool.or_eq_true, beq_iff_eq, hne, false_or] at h1
  obtain ⟨e, he, hb⟩ := Array.any_eq_true'.1 h1
  simp only [Bool.and_eq_true, beq_iff_eq] at hb
  exact ⟨e, he, hb⟩

/-- What is listed has all that binds it listed. -/
def Closed (md : Region.Mode) (ops : Array Oper) (listed : Array Bool) : Prop :=
  ∀ k ok, ops[k]? = some ok → listed.getD k false = true → ∀ e ∈ ok.after, Region.binds md e = true → listed.getD e.on false = true
set_option maxRecDepth 100000 in
theorem Closed.start (md : Region.Mode) (ops : Array Oper) (n : Nat) : Closed md ops (Array.replicate n false) := by
  intro k ok _ hk
  exfalso
  rcases Nat.lt_or_ge k n with h | h
  · simp [h] at hk
  · simp [Nat.not_lt.2 h] at hk
set_option maxRecDepth 100000 in
theorem Closed.set {listed : Array Bool} {j : Nat} (h : Closed md ops listed) (hj : j ∈ Region.ready md ops listed) : Closed md ops (listed.setIfInBounds j true) := by
  intro k ok hk hlk e he hb
  obtain ⟨_, oj, hoj, hall⟩ := mem_ready.1 hj
  by_cases hjk : j = k
  · subst hjk
    rw [hk] at hoj
    injection hoj with hoj
    subst hoj
    exact getD_set_true (hall e he hb)
  · rw [getD_set_ne false hjk] at hlk
    exact getD_set_true (h k ok hk hlk e he hb)
/-- Operation i stands before operation j (over any number of steps). -/
def ancB (md : Region.Mode) (ops : Array Oper) : Nat → Nat → Nat → Bool
  | 0, _, _ => false
  | f + 1, j, i => match ops[j]? with
    | none => false
    | some oj => oj.after.any fun e => Region.binds md e && (e.on == i || ancB md ops f e.on i)
set_option maxRecDepth 100000 in
theorem anc_listed {listed : Array Bool} (hc : Closed md ops listed) {i : Nat} : ∀ (f j : Nat) (oj : Oper), ops[j]? = some oj → (∀ e ∈ oj.after, Region.binds md e = true → listed.getD e.on false = true) → ancB md ops f j i = true → listed.getD i false = true
  | 0, _, _, _, _, h => by cases h
  | f + 1, j, oj, hj, hall, h => by
    simp only [ancB, hj] at h
    obtain ⟨e, he, hb⟩ := Array.any_eq_true'.1 h
    simp only [Bool.and_eq_true, Bool.or_eq_true, beq_iff_eq] at hb
    obtain ⟨hb, hb2⟩ := hb
    rcases hb2 with hb2 | hb2
    · rw [← hb2]; exact hall e he hb
    · cases ho : ops[e.on]? with
      | none =>
        cases f with
        | zero => cases hb2
        | succ f => simp only [ancB, ho] at hb2; cases hb2
      | some oe => exact anc_listed hc f e.on oe ho (hc e.on oe ho (hall e he hb)) hb2
/-- A plain move: its value does not hang on the world. -/
def moveB (ops : Array Oper) (i : Nat) : Bool := match ops[i]? with
  | some o => match o.op with
    | .move _ => true
    | _ => false
  | none => false
set_option maxRecDepth 100000 in
theorem moveB_spec {i : Nat} {o : Oper} (h : moveB ops i = true) (ho : ops[i]? = some o) : ∃ x, o.op = .move x := by
  simp only [moveB, ho] at h
  split at h
  · rename_i x hx; exact ⟨x, hx⟩
  · cases h
set_option maxRecDepth 100000 in
theorem YX.move {W W' : World} {o : Oper} {v : Value} {a : Act} {x : Operand} (hm : o.op = .move x) (h : YX P ops W o v a) : YX P ops W' o v a := by
  rcases h with ⟨hw, hq⟩ | h
  · refine .inl ⟨hw, fun w _ => ?_⟩
    have h1 := hq W (Ext.refl W)
    simp [execOp, hm, qxUpon] at h1 ⊢
    exact ⟨Ext.refl _, h1.2⟩
  · exact .inr h
/-- Operation j stands before or behind every other one (plain moves aside). -/
def cutB (md : Region.Mode) (ops : Array Oper) (j : Nat) : Bool :=
  (List.range ops.size).all fun i => i == j || moveB ops i || if i < j then ancB md ops ops.size j i else ancB md ops ops.size i j
set_option maxRecDepth 100000 in
theorem cut_no {listed : Array Bool} (hc : Closed md ops listed) {i j : Nat} (h : cutB md ops j = true) (hi : i ∈ Region.ready md ops listed) (hj : j ∈ Region.ready md ops listed) (hne : i ≠ j) : moveB ops i = true := by
  have two : ∀ {i : Nat} {listed : Array Bool}, listed.getD i true = false → listed.getD i false = true → False := fun {i listed} h1 h2 => by
    rcases Nat.lt_or_ge i listed.size with h' | h'
    · simp [h'] at h1 h2; rw [h1] at h2; cases h2
    · simp [Array.getElem?_eq_none h'] at h2
  obtain ⟨hi0, oi, hoi, hia⟩ := mem_ready.1 hi
  obtain ⟨hj0, oj, hoj, hja⟩ := mem_ready.1 hj
  simp only [cutB, List.all_eq_true, List.mem_range] at h
  have h1 := h i (Array.getElem?_eq_some_iff.1 hoi).1
  simp only [Bool.or_eq_true, beq_iff_eq, hne, false_or] at h1
  rcases h1 with h1 | h1
  · exact h1
  split at h1
  · exact (two hi0 (anc_listed hc _ j oj hoj hja h1)).elim
  · exact (two hj0 (anc_listed hc _ i oi hoi hia h1)).elim

/-- Whatever order is picked from here on, from every world that grew out of W. -/
def wpAnyX (P : Program) (md : Region.Mode) (ops : Array Oper) (Q : Act → World → Prop) : Nat → Array Bool → World → Act → Prop
  | 0, listed, W, a => Region.ready md ops listed = [] ∧ ∀ w, Ext W w → Q a w
  | fuel + 1, listed, W, a =>
    (Region.ready md ops listed = [] → ∀ w, Ext W w → Q a w) ∧
    ∀ i ∈ Region.ready md ops listed, ∀ w, Ext W w → wpOp P ops NoExit i (fun a' w' => (Ext w w' ∧ wpAnyX P md ops Q fuel (listed.setIfInBounds i true) w' a') ∨
      (lastB md ops i = true ∧ Region.ready md ops (listed.setIfInBounds i true) = [] ∧ Q a' w') ∨ (cutB md ops i = true ∧ wpAnyX P md ops Q fuel (listed.setIfInBounds i true) w' a')) a w

set_option maxRecDepth 100000 in
theorem wpAnyX.mono {Q : Act → World → Prop} : ∀ (fuel : Nat) (listed : Array Bool) {W W' : World} {a : Act}, wpAnyX P md ops Q fuel listed W a → Ext W W' → wpAnyX P md ops Q fuel listed W' a
  | 0, _, _, _, _, h, hW => ⟨h.1, fun w hw => h.2 w (hW.trans hw)⟩
  | _ + 1, _, _, _, _, h, hW => ⟨fun h0 w hw => h.1 h0 w (hW.trans hw), fun i hi w hw => h.2 i hi w (hW.trans hw)⟩

set_option maxRecDepth 100000 in
theorem wpAny_end {Q : Exit → Act → World → Prop} {fuel : Nat} {listed : Array Bool} {a : Act} {w : World} (h0 : Region.ready md ops listed = []) (h : Q .normal a w) : wpAny P md ops Q fuel listed a w := by
  cases fuel with
  | zero => exact ⟨h0, h⟩
  | succ fuel => exact ⟨fun _ => h, fun i hi => by rw [h0] at hi; cases hi⟩

set_option maxRecDepth 100000 in
theorem noLets : ¬ LetsOut NoExit := fun ⟨_, _, h⟩ => h

set_option maxRecDepth 100000 in
theorem wpAny_of_X {Q : Act → World → Prop} {Q' : Exit → Act → World → Prop} (hQ : ∀ a w, Q a w → Q' .normal a w) : ∀ (fuel : Nat) (listed : Array Bool) (W : World) (a : Act),
    wpAnyX P md ops Q fuel listed W a → wpAny P md ops Q' fuel listed a W
  | 0, _, W, _, h => ⟨h.1, hQ _ _ (h.2 W (Ext.refl _))⟩
  | fuel + 1, listed, W, a, h => ⟨fun h0 => hQ _ _ (h.1 h0 W (Ext.refl _)), fun i hi => by
      have h1 := h.2 i hi W (Ext.refl _)
      have fin : ∀ {a' : Act} {w w' : World}, ((Ext w w' ∧ wpAnyX P md ops Q fuel (listed.setIfInBounds i true) w' a') ∨ (lastB md ops i = true ∧ Region.ready md ops (listed.setIfInBounds i true) = [] ∧ Q a' w') ∨ (cutB md ops i = true ∧ wpAnyX P md ops Q fuel (listed.setIfInBounds i true) w' a')) →
          wpAny P md ops Q' fuel (listed.setIfInBounds i true) a' w' := fun hh => hh.elim (fun h2 => wpAny_of_X hQ fuel _ _ _ h2.2) (fun h2 => h2.elim (fun h2 => wpAny_end h2.2.1 (hQ _ _ h2.2.2)) (fun h2 => wpAny_of_X hQ fuel _ _ _ h2.2))
      unfold wpOp at *
      split
      · rename_i ho; simp only [ho] at h1; exact fin h1
      · rename_i o ho
        simp only [ho] at h1
        split
        · rename_i hw
          simp only [hw, if_true] at h1
          rcases h1 with h1 | ⟨_, h1⟩
          · refine .inl ?_
            unfold Oper.wp at *
            generalize (execOp a.eval o).run P W = r at *
            cases r with
            | ok n w' =>
              cases n <;> simp only [Oper.upon] at h1 ⊢
              case value u => exact fin h1
              case skip => exact fin h1
              case defer d => exact fin h1
              case enter f args =>
                refine Calls.mono h1 fun e w'' he => ?_
                cases e with
                | returned u => exact fin he
                | panicked c => exact he.elim
                | outgrown => exact (noLets he).elim
              case row row args => exact Rows.mono h1 fun u w'' he => fin he
            | halt x w' => cases x <;> simp only [Oper.upon] at h1 ⊢ <;> exact h1.elim
          · exact (noLets h1).elim
        · rename_i hw
          simp only [hw] at h1
          exact fin h1⟩

set_option maxRecDepth 100000 in
theorem wpOp_putX {j : Nat} {oi oj : Oper} {v : Value} (hj : ops[j]? = some oj) (hap : oi.apart ops oj = true)
    (hsi : ∀ cs b, oi.op ≠ .select cs b) (hsj : ∀ cs b, oj.op ≠ .select cs b) {W : World} {K : Act → World → Prop} {a : Act} {w : World}
    (hy : YX P ops W oi v a) (h : wpOp P ops NoExit j K (a.put oi.dst v) w) :
    wpOp P ops NoExit j (fun a' w' => YX P ops W oi v a' ∧ K (a'.put oi.dst v) w') a w := by
  obtain ⟨h1, h2, h3⟩ := Oper.apart_spec hap
  have keep : ∀ (a : Act), YX P ops W oi v a → ∀ u, YX P ops W oi v (a.put oj.dst u) := fun a hy u =>
    hy.of_same (execOp_put oi hsi a oj.dst u h3) (wanted_put oi a oj.dst u h3)
  have keepD : ∀ d, YX P ops W oi v { a with defers := d :: a.defers } := fun d => hy.of_same rfl rfl
  unfold wpOp at *
  simp only [hj] at *
  rw [wanted_put oj a oi.dst v h1] at h
  split
  · rename_i hw
    simp only [hw, if_true] at h
    rcases h with h | ⟨_, hlets⟩
    case inr => exact (noLets hlets).elim
    refine .inl ?_
    unfold Oper.wp at *
    rw [execOp_put oj hsj a oi.dst v h1] at h
    generalize (execOp a.eval oj).run P w = r at *
    cases r with
    | ok n w' =>
      cases n <;> simp only [Oper.upon] at h ⊢
      case value u => exact ⟨keep a hy u, by rw [← Act.put_comm a v u h2]; exact h⟩
      case skip => exact ⟨keep a hy _, by rw [← Act.put_comm a v undef h2]; exact h⟩
      case defer d =>
        refine ⟨keep _ (keepD d) _, ?_⟩
        rw [← Act.put_comm _ v undef h2, ← Act.put_defers]
        exact h
      case enter f args =>
        refine Calls.mono h fun e w'' he => ?_
        cases e with
        | returned u => exact ⟨keep a hy u, by rw [← Act.put_comm a v u h2]; exact he⟩
        | panicked c => exact he
        | outgrown => exact he
      case row row args => exact Rows.mono h fun u w'' he => ⟨keep a hy u, by rw [← Act.put_comm a v u h2]; exact he⟩
    | halt x w' =>
      cases x <;> simp only [Oper.upon] at h ⊢ <;> exact h
  · rename_i hw
    simp only [hw] at h
    exact ⟨keep a hy _, by rw [← Act.put_comm a v undef h2]; exact h⟩

set_option maxRecDepth 100000 in
theorem wpAnyX_first {Q : Act → World → Prop} {i : Nat} {oi : Oper} {v : Value} (hi : ops[i]? = some oi) (hsel : ∀ (j : Nat) (o : Oper) cs b, ops[j]? = some o → o.op ≠ .select cs b) :
    ∀ (fuel : Nat) (listed : Array Bool) (W : World) (a : Act),
      (∀ j oj, ops[j]? = some oj → j ≠ i → listed.getD j true = false → (∀ e ∈ oj.after, Region.binds md e = true → e.on ≠ i) → oi.apart ops oj = true) →
      Closed md ops listed → i ∈ Region.ready md ops listed → YX P ops W oi v a →
      wpAnyX P md ops Q fuel (listed.setIfInBounds i true) W (a.put oi.dst v) → wpAnyX P md ops Q (fuel + 1) listed W a := by
  intro fuel
  induction fuel with
  | zero =>
    intro listed W a _ _ hr hy H
    refine ⟨fun h => (by rw [h] at hr; cases hr), fun j hj w hw => ?_⟩
    by_cases hji : j = i
    · subst hji; exact hy.wpOp hi hw fun w' hw' => .inl ⟨hw', H.mono _ _ (hw.trans hw')⟩
    · have := ready_mono hj hji
      rw [H.1] at this
      cases this
  | succ fuel ih =>
    intro listed W a hfree hcl hr hy H
    refine ⟨fun h => (by rw [h] at hr; cases hr), fun j hj w hw => ?_⟩
    by_cases hji : j = i
    · subst hji; exact hy.wpOp hi hw fun w' hw' => .inl ⟨hw', H.mono _ _ (hw.trans hw')⟩
    · have h1 := H.2 j (ready_mono hj hji) w hw
      obtain ⟨hjun, oj, hoj, hall⟩ := mem_ready.1 hj
      have hnot : ∀ e ∈ oj.after, Region.binds md e = true → e.on ≠ i := fun e he hb heq => by
        have h1 := hall e he hb
        have h0 := (mem_ready.1 hr).1
        rw [heq] at h1
        rcases Nat.lt_or_ge i listed.size with h' | h'
        · simp [h'] at h0 h1; rw [h0] at h1; cases h1
        · simp [Array.getElem?_eq_none h'] at h1
      have h2 := wpOp_putX hoj (hfree j oj hoj hji hjun hnot) (fun cs b => hsel i oi cs b hi) (fun cs b => hsel j oj cs b hoj) hy h1
      have hfree' : ∀ k ok, ops[k]? = some ok → k ≠ i → (listed.setIfInBounds j true).getD k true = false →
          (∀ e ∈ ok.after, Region.binds md e = true → e.on ≠ i) → oi.apart ops ok = true := fun k ok hk hki hun hno => by
        refine hfree k ok hk hki ?_ hno
        by_cases hjk : j = k
        · subst hjk; exact hjun
        · rw [getD_set_ne true hjk] at hun; exact hun
      refine wpOp_mono (fun a' w' h3 => ?_) h2
      rcases h3 with ⟨h3, h4 | h4 | h4⟩
      · refine .inl ⟨h4.1, ih (listed.setIfInBounds j true) w' a' hfree' (hcl.set hj) (ready_mono hr (Ne.symm hji)) (h3.mono (hw.trans h4.1)) ?_⟩
        rw [Array.setIfInBounds_comm _ _ hji]
        exact h4.2
      · obtain ⟨e, he, hb, heq⟩ := lastB_spec h4.1 hoj (Array.getElem?_eq_some_iff.1 hi).1 (Ne.symm hji)
        exact absurd heq (hnot e he hb)
      · obtain ⟨x, hx⟩ := moveB_spec (cut_no hcl h4.1 hr hj (Ne.symm hji)) hi
        refine .inr (.inr ⟨h4.1, ih (listed.setIfInBounds j true) w' a' hfree' (hcl.set hj) (ready_mono hr (Ne.symm hji)) (h3.move hx) ?_⟩)
        rw [Array.setIfInBounds_comm _ _ hji]
        exact h4.2

def listedTo (ops : Array Oper) : Nat → Array Bool
  | 0 => Array.replicate ops.size false
  | k + 1 => (listedTo ops k).setIfInBounds k true

def soleB (ops : Array Oper) (k : Nat) : Bool := Region.ready .any ops (listedTo ops k) == [k]

/-- THE WALK IN THE ORDER OF THE TEXT. -/
def wpX (P : Program) (ops : Array Oper) (Q : Act → World → Prop) : List Oper → Nat → World → Act → Prop
  | [], _, W, a => ∀ w, Ext W w → Q a w
  | o :: rest, k, W, a =>
    (∃ v, YX P ops W o v a ∧ wpX P ops Q rest (k + 1) W (a.put o.dst v)) ∨
    (soleB ops k = true ∧ ∀ w, Ext W w → wpOp P ops NoExit k (fun a' w' => Ext w w' ∧ wpX P ops Q rest (k + 1) w' a') a w) ∨
    (soleB ops k = true ∧ lastB .any ops k = true ∧ Region.ready .any ops (listedTo ops (k + 1)) = [] ∧ ∀ w, Ext W w → wpOp P ops NoExit k (fun a' w' => Q a' w') a w) ∨
    (soleB ops k = true ∧ cutB .any ops k = true ∧ ∀ w, Ext W w → wpOp P ops NoExit k (fun a' w' => wpX P ops Q rest (k + 1) w' a') a w)

set_option maxRecDepth 100000 in
theorem wpX_lex {Q : Act → World → Prop} (hs : Region.noSelect ops = true) : ∀ (l : List Oper) (k : Nat) (W : World) (a : Act), (∀ j, l[j]? = ops[k + j]?) → Closed .any ops (listedTo ops k) →
    Region.lexFrom .any ops l.length k (listedTo ops k) = true → wpX P ops Q l k W a → wpAnyX P .any ops Q l.length (listedTo ops k) W a
  | [], _, _, _, _, _, hB, h => ⟨by simpa [Region.lexFrom] using hB, h⟩
  | o :: l, k, W, a, hl, hcl, hB, h => by
    have h0 : ops[k]? = some o := by simpa using (hl 0).symm
    simp only [List.length_cons, Region.lexFrom, Bool.and_eq_true] at hB
    obtain ⟨⟨hr, hf⟩, hB'⟩ := hB
    have hcl' : Closed .any ops (listedTo ops (k + 1)) := hcl.set (by simpa using hr)
    have hl' : ∀ j, l[j]? = ops[k + 1 + j]? := fun j => by have := hl (j + 1); simpa [Nat.add_assoc, Nat.add_comm 1 j] using this
    have sole : soleB ops k = true → Region.ready .any ops (listedTo ops k) = [k] := fun hsole => by simpa [soleB] using hsole
    rcases h with ⟨v, hy, hK⟩ | ⟨hsole, hK⟩ | ⟨hsole, hlast, hend, hK⟩ | ⟨hsole, hcut, hK⟩
    · exact wpAnyX_first h0 (Region.noSelect_spec hs) l.length _ W a (Region.free_spec h0 hf) hcl (by simpa using hr) hy (wpX_lex hs l (k + 1) W _ hl' hcl' hB' hK)
    · have hsole' := sole hsole
      refine ⟨fun h => (by rw [h] at hsole'; cases hsole'), fun i hi w hw => ?_⟩
      have hik : i = k := by rw [hsole'] at hi; simpa using hi
      subst hik
      exact wpOp_mono (fun a' w' h3 => .inl ⟨h3.1, wpX_lex hs l (i + 1) w' a' hl' hcl' hB' h3.2⟩) (hK w hw)
    · have hsole' := sole hsole
      refine ⟨fun h => (by rw [h] at hsole'; cases hsole'), fun i hi w hw => ?_⟩
      have hik : i = k := by rw [hsole'] at hi; simpa using hi
      subst hik
      exact wpOp_mono (fun a' w' h3 => .inr (.inl ⟨hlast, hend, h3⟩)) (hK w hw)
    · have hsole' := sole hsole
      refine ⟨fun h => (by rw [h] at hsole'; cases hsole'), fun i hi w hw => ?_⟩
      have hik : i = k := by rw [hsole'] at hi; simpa using hi
      subst hik
      exact wpOp_mono (fun a' w' h3 => .inr (.inr ⟨hcut, wpX_lex hs l (i + 1) w' a' hl' hcl' hB' h3⟩)) (hK w hw)

set_option maxRecDepth 100000 in
theorem wp_region_X {id : Nat} {Q : Exit → Act → World → Prop} {a : Act} {w : World} {l : List Oper} (hm : P.follows .mixedOrders = true) (hB : Region.lexB .any l.toArray = true)
    (h : wpX P l.toArray (fun a' w' => Q .normal a' w') l 0 w a) : (Code.region id l.toArray true).wp P Q a w := by
  simp only [Region.lexB, Bool.and_eq_true] at hB
  have h0 : wpX P l.toArray (fun a' w' => Q .normal a' w') l 0 w.drew a := by
    have key : ∀ (l' : List Oper) (k : Nat) (a : Act), wpX P l.toArray (fun a' w' => Q .normal a' w') l' k w a → wpX P l.toArray (fun a' w' => Q .normal a' w') l' k w.drew a := by
      intro l'
      induction l' with
      | nil => intro k a h w' hw'; exact h w' (((Ext.refl w).drew).trans hw')
      | cons o l' ih =>
        intro k a h
        rcases h with ⟨v, hy, hK⟩ | ⟨hs, hK⟩ | ⟨hs, h1, h2, hK⟩ | ⟨hs, h1, hK⟩
        · exact .inl ⟨v, hy.mono ((Ext.refl w).drew), ih _ _ hK⟩
        · exact .inr (.inl ⟨hs, fun w' hw' => hK w' (((Ext.refl w).drew).trans hw')⟩)
        · exact .inr (.inr (.inl ⟨hs, h1, h2, fun w' hw' => hK w' (((Ext.refl w).drew).trans hw')⟩))
        · exact .inr (.inr (.inr ⟨hs, h1, fun w' hw' => hK w' (((Ext.refl w).drew).trans hw')⟩))
    exact key l 0 a h
  have h1 := wpX_lex (P := P) (Q := fun a' w' => Q .normal a' w') hB.1 l 0 w.drew a (by simp) (Closed.start _ _ _) (by simpa [listedTo] using hB.2) h0
  exact wp_region_any hm (wpAny_of_X (fun _ _ h => h) _ _ _ _ (by simpa [listedTo] using h1))

set_option maxRecDepth 100000 in
/-- One quiet operation. -/
theorem wpX_quiet {Q : Act → World → Prop} {o : Oper} {rest : List Oper} {k : Nat} {W : World} {a : Act} (v : Value)
    (hw : Region.wanted o (yielded ops a.tmps) = true) (hq : QX P W o a v) (h : wpX P ops Q rest (k + 1) W (a.put o.dst v)) : wpX P ops Q (o :: rest) k W a :=
  .inl ⟨v, .inl ⟨hw, hq⟩, h⟩

set_option maxRecDepth 100000 in
theorem wpX_skip {Q : Act → World → Prop} {o : Oper} {rest : List Oper} {k : Nat} {W : World} {a : Act}
    (hw : Region.wanted o (yielded ops a.tmps) = false) (h : wpX P ops Q rest (k + 1) W (a.put o.dst undef)) : wpX P ops Q (o :: rest) k W a :=
  .inl ⟨undef, .inr ⟨hw, rfl⟩, h⟩

set_option maxRecDepth 100000 in
/-- An operation that alone is ready. -/
theorem wpX_sole {Q : Act → World → Prop} {o : Oper} {rest : List Oper} {k : Nat} {W : World} {a : Act} (ho : ops[k]? = some o) (hs : soleB ops k = true)
    (hw : Region.wanted o (yielded ops a.tmps) = true) (h : ∀ w, Ext W w → o.wp P a w (fun a' w' => Ext w w' ∧ wpX P ops Q rest (k + 1) w' a') NoExit) : wpX P ops Q (o :: rest) k W a :=
  .inr (.inl ⟨hs, fun w hw' => by unfold wpOp; simp only [ho, hw, if_true]; exact .inl (h w hw')⟩)

set_option maxRecDepth 100000 in
/-- One operation at a time, what follows behind a letter: a quiet one (or one whose guard says no). -/
theorem wpX_stepQ {Q : Act → World → Prop} {o : Oper} {rest : List Oper} {k : Nat} {W : World} {a : Act}
    (h : ∀ K : Act → Prop, (∀ a, wpX P ops Q rest (k + 1) W a → K a) → if Region.wanted o (yielded ops a.tmps) then ∃ v, QX P W o a v ∧ K (a.put o.dst v) else K (a.put o.dst undef)) : wpX P ops Q (o :: rest) k W a := by
  have h1 := h _ (fun _ h => h)
  by_cases hw : Region.wanted o (yielded ops a.tmps) = true
  · simp only [hw, if_true] at h1
    obtain ⟨v, hq, hK⟩ := h1
    exact wpX_quiet v hw hq hK
  · simp only [hw] at h1
    exact wpX_skip (by simpa using hw) h1

set_option maxRecDepth 100000 in
/-- .. one that alone is ready. -/
theorem wpX_stepS {Q : Act → World → Prop} {o : Oper} {rest : List Oper} {k : Nat} {W : World} {a : Act} (ho : ops[k]? = some o) (hs : soleB ops k = true)
    (h : ∀ K : World → Act → Prop, (∀ W a, wpX P ops Q rest (k + 1) W a → K W a) → ∀ w, Ext W w →
      if Region.wanted o (yielded ops a.tmps) then o.wp P a w (fun a' w' => Ext w w' ∧ K w' a') NoExit else K w (a.put o.dst undef)) : wpX P ops Q (o :: rest) k W a := by
  refine .inr (.inl ⟨hs, fun w hw' => ?_⟩)
  have h1 := h _ (fun _ _ h => h) w hw'
  unfold wpOp
  simp only [ho]
  by_cases hw : Region.wanted o (yielded ops a.tmps) = true
  · simp only [hw, if_true] at h1 ⊢
    exact .inl h1
  · simp only [hw] at h1 ⊢
    exact ⟨Ext.refl _, h1⟩

set_option maxRecDepth 100000 in
/-- .. the last one, which may do anything. -/
theorem wpX_stepL {Q : Act → World → Prop} {o : Oper} {rest : List Oper} {k : Nat} {W : World} {a : Act} (ho : ops[k]? = some o) (hs : soleB ops k = true) (hl : lastB .any ops k = true)
    (he : (Region.ready .any ops (listedTo ops (k + 1))).isEmpty = true)
    (h : ∀ K : Act → World → Prop, (∀ a w, Q a w → K a w) → ∀ w, Ext W w → if Region.wanted o (yielded ops a.tmps) then o.wp P a w K NoExit else K (a.put o.dst undef) w) : wpX P ops Q (o :: rest) k W a := by
  refine .inr (.inr (.inl ⟨hs, hl, List.isEmpty_iff.1 he, fun w hw' => ?_⟩))
  have h1 := h _ (fun _ _ h => h) w hw'
  unfold wpOp
  simp only [ho]
  by_cases hw : Region.wanted o (yielded ops a.tmps) = true
  · simp only [hw, if_true] at h1 ⊢
    exact .inl h1
  · simp only [hw] at h1 ⊢
    exact h1

set_option maxRecDepth 100000 in
/-- .. one that stands before or behind every other one, and may do anything. -/
theorem wpX_stepC {Q : Act → World → Prop} {o : Oper} {rest : List Oper} {k : Nat} {W : World} {a : Act} (ho : ops[k]? = some o) (hs : (soleB ops k && cutB .any ops k) = true)
    (h : ∀ K : World → Act → Prop, (∀ W a, wpX P ops Q rest (k + 1) W a → K W a) → ∀ w, Ext W w →
      if Region.wanted o (yielded ops a.tmps) then o.wp P a w (fun a' w' => K w' a') NoExit else K w (a.put o.dst undef)) : wpX P ops Q (o :: rest) k W a := by
  rw [Bool.and_eq_true] at hs
  refine .inr (.inr (.inr ⟨hs.1, hs.2, fun w hw' => ?_⟩))
  have h1 := h _ (fun _ _ h => h) w hw'
  unfold wpOp
  simp only [ho]
  by_cases hw : Region.wanted o (yielded ops a.tmps) = true
  · simp only [hw, if_true] at h1 ⊢
    exact .inl h1
  · simp only [hw] at h1 ⊢
    exact h1

set_option maxRecDepth 100000 in
theorem wpX_nil {Q : Act → World → Prop} {k : Nat} {W : World} {a : Act} (h : ∀ w, Ext W w → Q a w) : wpX P ops Q [] k W a := h
/-! The same in an order of one's own choice: a list of places. -/
def ordB (ops : Array Oper) : List Nat → Array Bool → Bool
  | [], listed => (Region.ready .any ops listed).isEmpty
  | i :: rest, listed => (Region.ready .any ops listed).contains i && Region.free .any ops listed i && ordB ops rest (listed.setIfInBounds i true)

def wpO (P : Program) (ops : Array Oper) (Q : Act → World → Prop) : List Nat → Array Bool → World → Act → Prop
  | [], _, W, a => ∀ w, Ext W w → Q a w
  | i :: rest, listed, W, a => ∃ o, ops[i]? = some o ∧
    ((∃ v, YX P ops W o v a ∧ wpO P ops Q rest (listed.setIfInBounds i true) W (a.put o.dst v)) ∨
    (Region.ready .any ops listed = [i] ∧ ∀ w, Ext W w → wpOp P ops NoExit i (fun a' w' => Ext w w' ∧ wpO P ops Q rest (listed.setIfInBounds i true) w' a') a w) ∨
    (Region.ready .any ops listed = [i] ∧ lastB .any ops i = true ∧ Region.ready .any ops (listed.setIfInBounds i true) = [] ∧ ∀ w, Ext W w → wpOp P ops NoExit i (fun a' w' => Q a' w') a w))

set_option maxRecDepth 100000 in
theorem wpO_any {Q : Act → World → Prop} (hs : Region.noSelect ops = true) : ∀ (l : List Nat) (listed : Array Bool) (W : World) (a : Act),
    Closed .any ops listed → ordB ops l listed = true → wpO P ops Q l listed W a → wpAnyX P .any ops Q l.length listed W a
  | [], _, _, _, _, hB, h => ⟨by simpa [ordB] using hB, h⟩
  | i :: l, listed, W, a, hcl, hB, h => by
    simp only [ordB, Bool.and_eq_true] at hB
    obtain ⟨⟨hr, hf⟩, hB'⟩ := hB
    have hcl' := hcl.set (j := i) (by simpa using hr)
    obtain ⟨o, h0, h⟩ := h
    rcases h with ⟨v, hy, hK⟩ | ⟨hsole', hK⟩ | ⟨hsole', hlast, hend, hK⟩
    · exact wpAnyX_first h0 (Region.noSelect_spec hs) l.length _ W a (Region.free_spec h0 hf) hcl (by simpa using hr) hy (wpO_any hs l _ W _ hcl' hB' hK)
    · refine ⟨fun h => (by rw [h] at hsole'; cases hsole'), fun j hj w hw => ?_⟩
      have hik : j = i := by rw [hsole'] at hj; simpa using hj
      subst hik
      exact wpOp_mono (fun a' w' h3 => .inl ⟨h3.1, wpO_any hs l _ w' a' hcl' hB' h3.2⟩) (hK w hw)
    · refine ⟨fun h => (by rw [h] at hsole'; cases hsole'), fun j hj w hw => ?_⟩
      have hik : j = i := by rw [hsole'] at hj; simpa using hj
      subst hik
      exact wpOp_mono (fun a' w' h3 => .inr (.inl ⟨hlast, hend, h3⟩)) (hK w hw)

set_option maxRecDepth 100000 in
theorem wp_region_O {id : Nat} {Q : Exit → Act → World → Prop} {a : Act} {w : World} {l : List Oper} (is : List Nat) (hm : P.follows .mixedOrders = true) (hlen : is.length = l.length)
    (hB : (Region.noSelect l.toArray && ordB l.toArray is (Array.replicate l.length false)) = true)
    (h : wpO P l.toArray (fun a' w' => Q .normal a' w') is (Array.replicate l.length false) w a) : (Code.region id l.toArray true).wp P Q a w := by
  simp only [Bool.and_eq_true] at hB
  have key : ∀ (l' : List Nat) (listed : Array Bool) (a : Act), wpO P l.toArray (fun a' w' => Q .normal a' w') l' listed w a → wpO P l.toArray (fun a' w' => Q .normal a' w') l' listed w.drew a := by
    intro l'
    induction l' with
    | nil => intro listed a h w' hw'; exact h w' (((Ext.refl w).drew).trans hw')
    | cons i l' ih =>
      intro listed a h
      obtain ⟨o, h0, h⟩ := h
      refine ⟨o, h0, ?_⟩
      rcases h with ⟨v, hy, hK⟩ | ⟨hs, hK⟩ | ⟨hs, h1, h2, hK⟩
      · exact .inl ⟨v, hy.mono ((Ext.refl w).drew), ih _ _ hK⟩
      · exact .inr (.inl ⟨hs, fun w' hw' => hK w' (((Ext.refl w).drew).trans hw')⟩)
      · exact .inr (.inr ⟨hs, h1, h2, fun w' hw' => hK w' (((Ext.refl w).drew).trans hw')⟩)
  have h1 := wpO_any (P := P) (Q := fun a' w' => Q .normal a' w') hB.1 is _ w.drew a (Closed.start _ _ _) hB.2 (key is _ a h)
  rw [hlen] at h1
  exact wp_region_any hm (wpAny_of_X (fun _ _ h => h) _ _ _ _ (by simpa using h1))

set_option maxRecDepth 100000 in
theorem wpO_stepQ {Q : Act → World → Prop} {o : Oper} {i : Nat} {rest : List Nat} {listed : Array Bool} {W : World} {a : Act} (h0 : ops[i]? = some o)
    (h : ∀ K : Act → Prop, (∀ a, wpO P ops Q rest (listed.setIfInBounds i true) W a → K a) → if Region.wanted o (yielded ops a.tmps) then ∃ v, QX P W o a v ∧ K (a.put o.dst v) else K (a.put o.dst undef)) : wpO P ops Q (i :: rest) listed W a := by
  have h1 := h _ (fun _ h => h)
  refine ⟨o, h0, .inl ?_⟩
  by_cases hw : Region.wanted o (yielded ops a.tmps) = true
  · simp only [hw, if_true] at h1
    obtain ⟨v, hq, hK⟩ := h1
    exact ⟨v, .inl ⟨hw, hq⟩, hK⟩
  · simp only [hw] at h1
    exact ⟨undef, .inr ⟨by simpa using hw, rfl⟩, h1⟩

set_option maxRecDepth 100000 in
theorem wpO_stepS {Q : Act → World → Prop} {o : Oper} {i : Nat} {rest : List Nat} {listed : Array Bool} {W : World} {a : Act} (h0 : ops[i]? = some o) (hs : (Region.ready .any ops listed == [i]) = true)
    (h : ∀ K : World → Act → Prop, (∀ W a, wpO P ops Q rest (listed.setIfInBounds i true) W a → K W a) → ∀ w, Ext W w →
      if Region.wanted o (yielded ops a.tmps) then o.wp P a w (fun a' w' => Ext w w' ∧ K w' a') NoExit else K w (a.put o.dst undef)) : wpO P ops Q (i :: rest) listed W a := by
  refine ⟨o, h0, .inr (.inl ⟨by simpa using hs, fun w hw' => ?_⟩)⟩
  have h1 := h _ (fun _ _ h => h) w hw'
  unfold wpOp
  simp only [h0]
  by_cases hw : Region.wanted o (yielded ops a.tmps) = true
  · simp only [hw, if_true] at h1 ⊢
    exact .inl h1
  · simp only [hw] at h1 ⊢
    exact ⟨Ext.refl _, h1⟩

set_option maxRecDepth 100000 in
theorem wpO_stepL {Q : Act → World → Prop} {o : Oper} {i : Nat} {rest : List Nat} {listed : Array Bool} {W : World} {a : Act} (h0 : ops[i]? = some o) (hs : (Region.ready .any ops listed == [i]) = true) (hl : lastB .any ops i = true)
    (he : (Region.ready .any ops (listed.setIfInBounds i true)).isEmpty = true)
    (h : ∀ K : Act → World → Prop, (∀ a w, Q a w → K a w) → ∀ w, Ext W w → if Region.wanted o (yielded ops a.tmps) then o.wp P a w K NoExit else K (a.put o.dst undef) w) : wpO P ops Q (i :: rest) listed W a := by
  refine ⟨o, h0, .inr (.inr ⟨by simpa using hs, hl, List.isEmpty_iff.1 he, fun w hw' => ?_⟩)⟩
  have h1 := h _ (fun _ _ h => h) w hw'
  unfold wpOp
  simp only [h0]
  by_cases hw : Region.wanted o (yielded ops a.tmps) = true
  · simp only [hw, if_true] at h1 ⊢
    exact .inl h1
  · simp only [hw] at h1 ⊢
    exact h1

set_option maxRecDepth 100000 in
theorem wpO_nil {Q : Act → World → Prop} {listed : Array Bool} {W : World} {a : Act} (h : ∀ w, Ext W w → Q a w) : wpO P ops Q [] listed W a := h
end
#print axioms wp_region_O
#print axioms wp_region_X

set_option maxRecDepth 100000 in
/-- Kept from the walk's eyes. -/
theorem hide {p : Prop} (h : p) : Hid p := h

/-- A call of function K enters it ('Tryz.call<K>'). -/
def Enters (P : Program) (K : Nat) : Prop := ∀ (args : Array Value) (w : World), (callFunc K args).run P w = .ok (.enter K args) w

/-- The slice address a reads as the integers xs. -/
def RdI (w : World) (a : Option Addr) (xs : List Int) : Prop :=
  xs ≠ [] → ∃ b off, a = some ⟨b, off, none⟩ ∧ ∀ (j : Nat) (x : Int), xs[j]? = some x → w.cell? ⟨b, off + j, none⟩ = some (.int .i64 x)
/-- .. as structs of two integers. -/
def RdP (w : World) (a : Option Addr) (xs : List (Int × Int)) : Prop :=
  xs ≠ [] → ∃ b off, a = some ⟨b, off, none⟩ ∧ ∀ (j : Nat) (x : Int × Int), xs[j]? = some x → w.cell? ⟨b, off + j * 2, none⟩ = some (.int .i64 x.1) ∧ w.cell? ⟨b, off + j * 2 + 1, none⟩ = some (.int .i64 x.2)

set_option maxRecDepth 100000 in
theorem Ext.keep {w w' : World} (h : Ext w w') {p : Addr} {v : Value} (hp : w.cell? p = some v) : w'.cell? p = some v := (h.cellS p (by rw [hp]; rfl)).trans hp

set_option maxRecDepth 100000 in
theorem RdI.ext {w w' : World} {a : Option Addr} {xs : List Int} (h : RdI w a xs) (hw : Ext w w') : RdI w' a xs := fun hne => by
  obtain ⟨b, off, ha, hc⟩ := h hne
  exact ⟨b, off, ha, fun j x hx => hw.keep (hc j x hx)⟩
set_option maxRecDepth 100000 in
theorem RdP.ext {w w' : World} {a : Option Addr} {xs : List (Int × Int)} (h : RdP w a xs) (hw : Ext w w') : RdP w' a xs := fun hne => by
  obtain ⟨b, off, ha, hc⟩ := h hne
  exact ⟨b, off, ha, fun j x hx => ⟨hw.keep (hc j x hx).1, hw.keep (hc j x hx).2⟩⟩
set_option maxRecDepth 100000 in
theorem RdI.nil (w : World) (a : Option Addr) : RdI w a [] := fun h => absurd rfl h
set_option maxRecDepth 100000 in
theorem RdP.nil (w : World) (a : Option Addr) : RdP w a [] := fun h => absurd rfl h

set_option maxRecDepth 100000 in
theorem ne_of_at {α : Type} {xs : List α} {k : Nat} {x : α} (h : xs[k]? = some x) : xs ≠ [] := by rintro rfl; simp at h
set_option maxRecDepth 100000 in
theorem at_of_lt {α : Type} {xs : List α} {k : Nat} (h : k < xs.length) : ∃ x, xs[k]? = some x := ⟨xs[k], List.getElem?_eq_getElem h⟩
set_option maxRecDepth 100000 in
theorem lt_of_at {α : Type} {xs : List α} {k : Nat} {x : α} (h : xs[k]? = some x) : k < xs.length := (List.getElem?_eq_some_iff.1 h).1
set_option maxRecDepth 100000 in
theorem take_at {α : Type} {xs : List α} {k : Nat} {x : α} (h : xs[k]? = some x) : xs.take (k + 1) = xs.take k ++ [x] := by
  rw [List.take_add_one, h]; rfl
set_option maxRecDepth 100000 in
theorem RdI.at_ {w : World} {a : Option Addr} {xs : List Int} (h : RdI w a xs) {k : Nat} {x : Int} (hx : xs[k]? = some x) :
    ∃ b off, a = some ⟨b, off, none⟩ ∧ w.cell? ⟨b, off + k, none⟩ = some (.int .i64 x) := by
  obtain ⟨b, off, ha, hc⟩ := h (ne_of_at hx)
  exact ⟨b, off, ha, hc k x hx⟩
set_option maxRecDepth 100000 in
theorem RdP.at_ {w : World} {a : Option Addr} {xs : List (Int × Int)} (h : RdP w a xs) {k : Nat} {x : Int × Int} (hx : xs[k]? = some x) :
    ∃ b off, a = some ⟨b, off, none⟩ ∧ w.cell? ⟨b, off + k * 2, none⟩ = some (.int .i64 x.1) ∧ w.cell? ⟨b, off + k * 2 + 1, none⟩ = some (.int .i64 x.2) := by
  obtain ⟨b, off, ha, hc⟩ := h (ne_of_at hx)
  exact ⟨b, off, ha, hc k x hx⟩

set_option maxRecDepth 100000 in
/-- The cells of a block just made. -/
theorem new0 (w : World) (v : Value) (vs : List Value) (t : TypeId) : (w.alloc (.cells ⟨v :: vs⟩ t)).cell? ⟨w.heap.size, 0, none⟩ = some v := by
  rw [World.cell?_alloc_at _ _ _ _ rfl]; rfl
set_option maxRecDepth 100000 in
theorem new1 (w : World) (v u : Value) (vs : List Value) (t : TypeId) : (w.alloc (.cells ⟨v :: u :: vs⟩ t)).cell? ⟨w.heap.size, 1, none⟩ = some u := by
  rw [World.cell?_alloc_at _ _ _ _ rfl]; rfl
set_option maxRecDepth 100000 in
theorem Ext.new (w : World) (o : Obj) : Ext w (w.alloc o) := (Ext.refl w).alloc o

set_option maxRecDepth 100000 in
theorem Ext.a {w w' : World} {o : Obj} (h : Ext (w.alloc o) w') : Ext w w' := (Ext.new w o).trans h
set_option maxRecDepth 100000 in
theorem Ext.d {w w' : World} (h : Ext w.drew w') : Ext w w' := ((Ext.refl w).drew).trans h

set_option maxRecDepth 100000 in
/-- A cell that is there is as it was behind a new block. -/
@[simp, go_sem] theorem alloc_cellS (w : World) (a : Addr) (o : Obj) (h : (w.cell? a).isSome = true) : (w.alloc o).cell? a = w.cell? a := (Ext.new w o).cellS a h
set_option maxRecDepth 100000 in
@[simp, go_sem] theorem alloc_frozenS (w : World) (a : Addr) (o : Obj) (h : (w.cell? a).isSome = true) : (w.alloc o).frozen? a = w.frozen? a := (Ext.new w o).frozenS a h

set_option maxRecDepth 100000 in
@[simp, go_sem] theorem setCell_sameS (w : World) (p : Addr) (v : Value) (h : (w.cell? p).isSome = true) : (w.setCell p v).cell? p = some v := by
  obtain ⟨u, hu⟩ := Option.isSome_iff_exists.1 h
  exact World.cell?_setCell_same _ _ _ hu

/-- low ≤ n ≤ high. -/
def inR (n lo hi : Int) : Bool := decide (lo ≤ n) && decide (n ≤ hi)
set_option maxRecDepth 100000 in
theorem inR_iff {n lo hi : Int} : inR n lo hi = true ↔ lo ≤ n ∧ n ≤ hi := by simp [inR]
set_option maxRecDepth 100000 in
theorem inR_not {n lo hi : Int} : inR n lo hi = false ↔ n < lo ∨ hi < n := by
  rw [← Bool.not_eq_true, inR_iff]; omega
/-- The greatest set of sz candidates. -/
def topOf (sz : Int) : Int := 2 ^ sz.toNat - 1
set_option maxRecDepth 100000 in
theorem top_wrap {sz : Int} (h1 : 1 ≤ sz) (h6 : sz ≤ 6) : IntKind.i64.wrap (IntKind.i64.wrap (2 ^ sz.toNat) - 1) = topOf sz := by
  have : sz = 1 ∨ sz = 2 ∨ sz = 3 ∨ sz = 4 ∨ sz = 5 ∨ sz = 6 := by omega
  rcases this with rfl | rfl | rfl | rfl | rfl | rfl <;> decide
set_option maxRecDepth 100000 in
theorem top_wrap64 {sz : Int} (h1 : 1 ≤ sz) (h6 : sz ≤ 6) : wrap64 (wrap64 (2 ^ sz.toNat) - 1) = topOf sz := by
  have h := top_wrap h1 h6
  rwa [IntWalk.i64_left, IntWalk.i64_left] at h
set_option maxRecDepth 100000 in
theorem any_not {α : Type} (xs : List α) (f : α → Bool) : (xs.any fun x => !f x) = !xs.all f := by
  rw [List.not_all_eq_any_not]
set_option maxRecDepth 100000 in
theorem shl_wrap {sz : Int} (h1 : 0 ≤ sz) (h6 : sz ≤ 6) : IntKind.i64.wrap (2 ^ sz.toNat) = topOf sz + 1 := by
  have : sz = 0 ∨ sz = 1 ∨ sz = 2 ∨ sz = 3 ∨ sz = 4 ∨ sz = 5 ∨ sz = 6 := by omega
  rcases this with rfl | rfl | rfl | rfl | rfl | rfl | rfl <;> decide
set_option maxRecDepth 100000 in
theorem all_take {α : Type} {xs : List α} {f : α → Bool} {k : Nat} {x : α} (hx : xs[k]? = some x) (h : (xs.take k).all f = true) : (xs.take (k + 1)).all f = f x := by
  rw [take_at hx, List.all_append, h]; simp
set_option maxRecDepth 100000 in
theorem all_false {α : Type} {xs : List α} {f : α → Bool} {k : Nat} {x : α} (hx : xs[k]? = some x) (h : f x = false) : xs.all f = false := by
  rw [List.all_eq_false]; exact ⟨x, List.mem_of_getElem? hx, by simp [h]⟩
set_option maxRecDepth 100000 in
theorem all_whole {α : Type} {xs : List α} {f : α → Bool} {k : Nat} (hk : xs.length ≤ k) (h : (xs.take k).all f = true) : xs.all f = true := by
  rwa [List.take_of_length_le hk] at h
set_option maxRecDepth 100000 in
theorem ret_bool {a b : Bool} (h : a = b) : Ending.returned (.bool a) = .returned (.bool b) := by rw [h]
set_option maxRecDepth 100000 in
theorem ret_int {a b : Int} (h : a = b) : Ending.returned (.int .i64 a) = .returned (.int .i64 b) := by rw [h]

end Go.Proofs.YtfmeklgdaabooaaGreatDoor
