/- A drawn region in which some loads may come behind an operation that writes: they read below H, and it writes from H on. slices.Repeat of one integer. slices.Delete and slices.Clone of integers. -/
import Derived.Test.YtkbbcglghfddjaaCf0
import Derived.Test.YtkbbcglghfddjaaCf3
import Derived.Laws.IdiomCopy
import Derived.Deep.RegionLaw
import Derived.Lib.SliceRun
namespace Go.Proofs.Ytkbbcglghfddjaa
open Go.RowKit

/-- All blocks below H are as they were. -/
structure Low (H : Nat) (w w' : World) : Prop where
  size : w.heap.size ≤ w'.heap.size
  block : ∀ k, k < H → k < w.heap.size → w'.heap[k]? = w.heap[k]?
set_option maxRecDepth 100000 in
theorem Low.refl (H : Nat) (w : World) : Low H w w := ⟨Nat.le_refl _, fun _ _ _ => rfl⟩
set_option maxRecDepth 100000 in
theorem Low.trans {H : Nat} {a b c : World} (h : Low H a b) (k : Low H b c) : Low H a c := ⟨Nat.le_trans h.size k.size, fun i hi hl => (k.block i hi (Nat.lt_of_lt_of_le hl h.size)).trans (h.block i hi hl)⟩
set_option maxRecDepth 100000 in
theorem Low.of_ext {H : Nat} {w w' : World} (h : Ext w w') : Low H w w' := ⟨h.size, fun k _ hl => Below.block h k hl⟩
set_option maxRecDepth 100000 in
theorem Low.keep {H : Nat} {w w' : World} (h : Low H w w') {p : Addr} {v : Value} (hp : p.block < H) (hc : w.cell? p = some v) : w'.cell? p = some v :=
  (World.cell?_of_block (w := w) (h.block p.block hp (World.block_lt_of_cell? w p hc))).trans hc

section
variable {P : Program} {ops : Array Oper} {md : Region.Mode} {H : Nat} {late : List Nat}

def QL (P : Program) (H : Nat) (W : World) (o : Oper) (a : Act) (v : Value) : Prop := ∀ w, Low H W w → qxUpon P w v ((execOp a.eval o).run P w)
def YL (P : Program) (ops : Array Oper) (H : Nat) (W : World) (o : Oper) (v : Value) (a : Act) : Prop :=
  (Region.wanted o (yielded ops a.tmps) = true ∧ QL P H W o a v) ∨ (Region.wanted o (yielded ops a.tmps) = false ∧ v = undef)
set_option maxRecDepth 100000 in
theorem YL.yx {W : World} {o : Oper} {v : Value} {a : Act} (h : YL P ops H W o v a) : YX P ops W o v a := h.imp (fun ⟨h1, h2⟩ => ⟨h1, fun w hw => h2 w (Low.of_ext hw)⟩) id
set_option maxRecDepth 100000 in
theorem YL.low {W W' : World} {o : Oper} {v : Value} {a : Act} (h : YL P ops H W o v a) (hW : Low H W W') : YL P ops H W' o v a :=
  h.imp (fun ⟨h1, h2⟩ => ⟨h1, fun w hw => h2 w (hW.trans hw)⟩) id
set_option maxRecDepth 100000 in
theorem YL.of_same {W : World} {o : Oper} {v : Value} {a a' : Act} (hy : YL P ops H W o v a) (he : execOp a'.eval o = execOp a.eval o)
    (hw : Region.wanted o (yielded ops a'.tmps) = Region.wanted o (yielded ops a.tmps)) : YL P ops H W o v a' := by
  unfold YL QL at *
  rw [he, hw]
  exact hy
def Y2 (P : Program) (ops : Array Oper) (H : Nat) (lt : Bool) (W : World) (o : Oper) (v : Value) (a : Act) : Prop := YX P ops W o v a ∧ (lt = true → YL P ops H W o v a)
set_option maxRecDepth 100000 in
theorem Y2.of_same {lt : Bool} {W : World} {o : Oper} {v : Value} {a a' : Act} (hy : Y2 P ops H lt W o v a) (he : execOp a'.eval o = execOp a.eval o)
    (hw : Region.wanted o (yielded ops a'.tmps) = Region.wanted o (yielded ops a.tmps)) : Y2 P ops H lt W o v a' := ⟨hy.1.of_same he hw, fun h => (hy.2 h).of_same he hw⟩
set_option maxRecDepth 100000 in
theorem Y2.ext {lt : Bool} {W W' : World} {o : Oper} {v : Value} {a : Act} (hy : Y2 P ops H lt W o v a) (hW : Ext W W') : Y2 P ops H lt W' o v a := ⟨hy.1.mono hW, fun h => (hy.2 h).low (Low.of_ext hW)⟩
set_option maxRecDepth 100000 in
theorem Y2.mono {lt : Bool} {W W' : World} {o : Oper} {v : Value} {a : Act} (hy : Y2 P ops H lt W o v a) (hW : Ext W W') : Y2 P ops H lt W' o v a := hy.ext hW

/-- Operation j stands before or behind every other one (plain moves and the late ones aside). -/
def cutLB (md : Region.Mode) (ops : Array Oper) (late : List Nat) (j : Nat) : Bool :=
  (List.range ops.size).all fun i => i == j || moveB ops i || late.contains i || if i < j then ancB md ops ops.size j i else ancB md ops ops.size i j
set_option maxRecDepth 100000 in
theorem cutL_no {listed : Array Bool} (hc : Closed md ops listed) {i j : Nat} (h : cutLB md ops late j = true) (hi : i ∈ Region.ready md ops listed) (hj : j ∈ Region.ready md ops listed) (hne : i ≠ j) : moveB ops i = true ∨ late.contains i = true := by
  have two : ∀ {i : Nat} {listed : Array Bool}, listed.getD i true = false → listed.getD i false = true → False := fun {i listed} h1 h2 => by
    rcases Nat.lt_or_ge i listed.size with h' | h'
    · simp [h'] at h1 h2; rw [h1] at h2; cases h2
    · simp [Array.getElem?_eq_none h'] at h2
  obtain ⟨hi0, oi, hoi, hia⟩ := mem_ready.1 hi
  obtain ⟨hj0, oj, hoj, hja⟩ := mem_ready.1 hj
  simp only [cutLB, List.all_eq_true, List.mem_range] at h
  have h1 := h i (Array.getElem?_eq_some_iff.1 hoi).1
  rw [Bool.or_eq_true, Bool.or_eq_true, Bool.or_eq_true] at h1
  rcases h1 with ((h1 | h1) | h1) | h1
  · exact absurd (by simpa using h1) hne
  · exact .inl h1
  · exact .inr h1
  split at h1
  · exact (two hi0 (anc_listed hc _ j oj hoj hja h1)).elim
  · exact (two hj0 (anc_listed hc _ i oi hoi hia h1)).elim

/-- Whatever order is picked from here on, from every world that grew out of W. -/
def wpAnyL (P : Program) (md : Region.Mode) (ops : Array Oper) (H : Nat) (late : List Nat) (Q : Act → World → Prop) : Nat → Array Bool → World → Act → Prop
  | 0, listed, W, a => Region.ready md ops listed = [] ∧ ∀ w, Ext W w → Q a w
  | fuel + 1, listed, W, a =>
    (Region.ready md ops listed = [] → ∀ w, Ext W w → Q a w) ∧
    ∀ i ∈ Region.ready md ops listed, ∀ w, Ext W w → wpOp P ops NoExit i (fun a' w' => (Ext w w' ∧ wpAnyL P md ops H late Q fuel (listed.setIfInBounds i true) w' a') ∨
      (lastB md ops i = true ∧ Region.ready md ops (listed.setIfInBounds i true) = [] ∧ Q a' w') ∨ (cutLB md ops late i = true ∧ Low H w w' ∧ wpAnyL P md ops H late Q fuel (listed.setIfInBounds i true) w' a')) a w

set_option maxRecDepth 100000 in
theorem wpAnyL.mono {Q : Act → World → Prop} : ∀ (fuel : Nat) (listed : Array Bool) {W W' : World} {a : Act}, wpAnyL P md ops H late Q fuel listed W a → Ext W W' → wpAnyL P md ops H late Q fuel listed W' a
  | 0, _, _, _, _, h, hW => ⟨h.1, fun w hw => h.2 w (hW.trans hw)⟩
  | _ + 1, _, _, _, _, h, hW => ⟨fun h0 w hw => h.1 h0 w (hW.trans hw), fun i hi w hw => h.2 i hi w (hW.trans hw)⟩

set_option maxRecDepth 100000 in
theorem wpAny_of_L {Q : Act → World → Prop} {Q' : Exit → Act → World → Prop} (hQ : ∀ a w, Q a w → Q' .normal a w) : ∀ (fuel : Nat) (listed : Array Bool) (W : World) (a : Act),
    wpAnyL P md ops H late Q fuel listed W a → wpAny P md ops Q' fuel listed a W
  | 0, _, W, _, h => ⟨h.1, hQ _ _ (h.2 W (Ext.refl _))⟩
  | fuel + 1, listed, W, a, h => ⟨fun h0 => hQ _ _ (h.1 h0 W (Ext.refl _)), fun i hi => by
      have h1 := h.2 i hi W (Ext.refl _)
      have fin : ∀ {a' : Act} {w w' : World}, ((Ext w w' ∧ wpAnyL P md ops H late Q fuel (listed.setIfInBounds i true) w' a') ∨ (lastB md ops i = true ∧ Region.ready md ops (listed.setIfInBounds i true) = [] ∧ Q a' w') ∨ (cutLB md ops late i = true ∧ Low H w w' ∧ wpAnyL P md ops H late Q fuel (listed.setIfInBounds i true) w' a')) →
          wpAny P md ops Q' fuel (listed.setIfInBounds i true) a' w' := fun hh => hh.elim (fun h2 => wpAny_of_L hQ fuel _ _ _ h2.2) (fun h2 => h2.elim (fun h2 => wpAny_end h2.2.1 (hQ _ _ h2.2.2)) (fun h2 => wpAny_of_L hQ fuel _ _ _ h2.2.2))
      unfold wpOp at *
      split
      · rename_i ho; simp only [ho] at h1; exact fin h1
      · rename_i o ho
        simp only [ho] at h1
        split
        · rename_i hw
          simp only [hw, if_true] at h1
          rcases h1 with h1 | ⟨_, h1⟩
          · refine .inl ?_
            unfold Oper.wp at *
            generalize (execOp a.eval o).run P W = r at *
            cases r with
            | ok n w' =>
              cases n <;> simp only [Oper.upon] at h1 ⊢
              case value u => exact fin h1
              case skip => exact fin h1
              case defer d => exact fin h1
              case enter f args =>
                refine Calls.mono h1 fun e w'' he => ?_
                cases e with
                | returned u => exact fin he
                | panicked c => exact he.elim
                | outgrown => exact (noLets he).elim
              case row row args => exact Rows.mono h1 fun u w'' he => fin he
            | halt x w' => cases x <;> simp only [Oper.upon] at h1 ⊢ <;> exact h1.elim
          · exact (noLets h1).elim
        · rename_i hw
          simp only [hw] at h1
          exact fin h1⟩

set_option maxRecDepth 100000 in
theorem wpOp_putY {j : Nat} {oi oj : Oper} {v : Value} (Y : Act → Prop) (hsame : ∀ a a' : Act, Y a → execOp a'.eval oi = execOp a.eval oi → Region.wanted oi (yielded ops a'.tmps) = Region.wanted oi (yielded ops a.tmps) → Y a') (hj : ops[j]? = some oj) (hap : oi.apart ops oj = true)
    (hsi : ∀ cs b, oi.op ≠ .select cs b) (hsj : ∀ cs b, oj.op ≠ .select cs b) {K : Act → World → Prop} {a : Act} {w : World}
    (hy : Y a) (h : wpOp P ops NoExit j K (a.put oi.dst v) w) :
    wpOp P ops NoExit j (fun a' w' => Y a' ∧ K (a'.put oi.dst v) w') a w := by
  obtain ⟨h1, h2, h3⟩ := Oper.apart_spec hap
  have keep : ∀ (a : Act), Y a → ∀ u, Y (a.put oj.dst u) := fun a hy u =>
    hsame _ _ hy (execOp_put oi hsi a oj.dst u h3) (wanted_put oi a oj.dst u h3)
  have keepD : ∀ d, Y { a with defers := d :: a.defers } := fun d => hsame _ _ hy rfl rfl
  unfold wpOp at *
  simp only [hj] at *
  rw [wanted_put oj a oi.dst v h1] at h
  split
  · rename_i hw
    simp only [hw, if_true] at h
    rcases h with h | ⟨_, hlets⟩
    case inr => exact (noLets hlets).elim
    refine .inl ?_
    unfold Oper.wp at *
    rw [execOp_put oj hsj a oi.dst v h1] at h
    generalize (execOp a.eval oj).run P w = r at *
    cases r with
    | ok n w' =>
      cases n <;> simp only [Oper.upon] at h ⊢
      case value u => exact ⟨keep a hy u, by rw [← Act.put_comm a v u h2]; exact h⟩
      case skip => exact ⟨keep a hy _, by rw [← Act.put_comm a v undef h2]; exact h⟩
      case defer d =>
        refine ⟨keep _ (keepD d) _, ?_⟩
        rw [← Act.put_comm _ v undef h2, ← Act.put_defers]
        exact h
      case enter f args =>
        refine Calls.mono h fun e w'' he => ?_
        cases e with
        | returned u => exact ⟨keep a hy u, by rw [← Act.put_comm a v u h2]; exact he⟩
        | panicked c => exact he
        | outgrown => exact he
      case row row args => exact Rows.mono h fun u w'' he => ⟨keep a hy u, by rw [← Act.put_comm a v u h2]; exact he⟩
    | halt x w' =>
      cases x <;> simp only [Oper.upon] at h ⊢ <;> exact h
  · rename_i hw
    simp only [hw] at h
    exact ⟨keep a hy _, by rw [← Act.put_comm a v undef h2]; exact h⟩

set_option maxRecDepth 100000 in
theorem wpAnyL_first {Q : Act → World → Prop} {i : Nat} {oi : Oper} {v : Value} (hi : ops[i]? = some oi) (hsel : ∀ (j : Nat) (o : Oper) cs b, ops[j]? = some o → o.op ≠ .select cs b) :
    ∀ (fuel : Nat) (listed : Array Bool) (W : World) (a : Act),
      (∀ j oj, ops[j]? = some oj → j ≠ i → listed.getD j true = false → (∀ e ∈ oj.after, Region.binds md e = true → e.on ≠ i) → oi.apart ops oj = true) →
      Closed md ops listed → i ∈ Region.ready md ops listed → Y2 P ops H (late.contains i) W oi v a →
      wpAnyL P md ops H late Q fuel (listed.setIfInBounds i true) W (a.put oi.dst v) → wpAnyL P md ops H late Q (fuel + 1) listed W a := by
  intro fuel
  induction fuel with
  | zero =>
    intro listed W a _ _ hr hy HH
    refine ⟨fun h => (by rw [h] at hr; cases hr), fun j hj w hw => ?_⟩
    by_cases hji : j = i
    · subst hji; exact hy.1.wpOp hi hw fun w' hw' => .inl ⟨hw', HH.mono _ _ (hw.trans hw')⟩
    · have := ready_mono hj hji
      rw [HH.1] at this
      cases this
  | succ fuel ih =>
    intro listed W a hfree hcl hr hy HH
    refine ⟨fun h => (by rw [h] at hr; cases hr), fun j hj w hw => ?_⟩
    by_cases hji : j = i
    · subst hji; exact hy.1.wpOp hi hw fun w' hw' => .inl ⟨hw', HH.mono _ _ (hw.trans hw')⟩
    · have h1 := HH.2 j (ready_mono hj hji) w hw
      obtain ⟨hjun, oj, hoj, hall⟩ := mem_ready.1 hj
      have hnot : ∀ e ∈ oj.after, Region.binds md e = true → e.on ≠ i := fun e he hb heq => by
        have h1 := hall e he hb
        have h0 := (mem_ready.1 hr).1
        rw [heq] at h1
        rcases Nat.lt_or_ge i listed.size with h' | h'
        · simp [h'] at h0 h1; rw [h0] at h1; cases h1
        · simp [Array.getElem?_eq_none h'] at h1
      have h2 := wpOp_putY (Y2 P ops H (late.contains i) W oi v) (fun _ _ hy he hw => hy.of_same he hw) hoj (hfree j oj hoj hji hjun hnot) (fun cs b => hsel i oi cs b hi) (fun cs b => hsel j oj cs b hoj) hy h1
      have hfree' : ∀ k ok, ops[k]? = some ok → k ≠ i → (listed.setIfInBounds j true).getD k true = false →
          (∀ e ∈ ok.after, Region.binds md e = true → e.on ≠ i) → oi.apart ops ok = true := fun k ok hk hki hun hno => by
        refine hfree k ok hk hki ?_ hno
        by_cases hjk : j = k
        · subst hjk; exact hjun
        · rw [getD_set_ne true hjk] at hun; exact hun
      refine wpOp_mono (fun a' w' h3 => ?_) h2
      rcases h3 with ⟨h3, h4 | h4 | h4⟩
      · refine .inl ⟨h4.1, ih (listed.setIfInBounds j true) w' a' hfree' (hcl.set hj) (ready_mono hr (Ne.symm hji)) (h3.mono (hw.trans h4.1)) ?_⟩
        rw [Array.setIfInBounds_comm _ _ hji]
        exact h4.2
      · obtain ⟨e, he, hb, heq⟩ := lastB_spec h4.1 hoj (Array.getElem?_eq_some_iff.1 hi).1 (Ne.symm hji)
        exact absurd heq (hnot e he hb)
      · have hy3 : Y2 P ops H (late.contains i) w' oi v a' := by
          rcases cutL_no hcl h4.1 hr hj (Ne.symm hji) with hm | hl
          · obtain ⟨x, hx⟩ := moveB_spec hm hi
            exact ⟨h3.1.move hx, fun hl => (h3.2 hl).low ((Low.of_ext hw).trans h4.2.1)⟩
          · have h5 := (h3.2 hl).low ((Low.of_ext hw).trans h4.2.1)
            exact ⟨h5.yx, fun _ => h5⟩
        refine .inr (.inr ⟨h4.1, h4.2.1, ih (listed.setIfInBounds j true) w' a' hfree' (hcl.set hj) (ready_mono hr (Ne.symm hji)) hy3 ?_⟩)
        rw [Array.setIfInBounds_comm _ _ hji]
        exact h4.2.2

/-- THE WALK IN THE ORDER OF THE TEXT. -/
def wpL (P : Program) (ops : Array Oper) (H : Nat) (late : List Nat) (Q : Act → World → Prop) : List Oper → Nat → World → Act → Prop
  | [], _, W, a => ∀ w, Ext W w → Q a w
  | o :: rest, k, W, a =>
    (∃ v, Y2 P ops H (late.contains k) W o v a ∧ wpL P ops H late Q rest (k + 1) W (a.put o.dst v)) ∨
    (soleB ops k = true ∧ ∀ w, Ext W w → wpOp P ops NoExit k (fun a' w' => Ext w w' ∧ wpL P ops H late Q rest (k + 1) w' a') a w) ∨
    (soleB ops k = true ∧ lastB .any ops k = true ∧ Region.ready .any ops (listedTo ops (k + 1)) = [] ∧ ∀ w, Ext W w → wpOp P ops NoExit k (fun a' w' => Q a' w') a w) ∨
    (soleB ops k = true ∧ cutLB .any ops late k = true ∧ ∀ w, Ext W w → wpOp P ops NoExit k (fun a' w' => Low H w w' ∧ wpL P ops H late Q rest (k + 1) w' a') a w)

set_option maxRecDepth 100000 in
theorem wpL_lex {Q : Act → World → Prop} (hs : Region.noSelect ops = true) : ∀ (l : List Oper) (k : Nat) (W : World) (a : Act), (∀ j, l[j]? = ops[k + j]?) → Closed .any ops (listedTo ops k) →
    Region.lexFrom .any ops l.length k (listedTo ops k) = true → wpL P ops H late Q l k W a → wpAnyL P .any ops H late Q l.length (listedTo ops k) W a
  | [], _, _, _, _, _, hB, h => ⟨by simpa [Region.lexFrom] using hB, h⟩
  | o :: l, k, W, a, hl, hcl, hB, h => by
    have h0 : ops[k]? = some o := by simpa using (hl 0).symm
    simp only [List.length_cons, Region.lexFrom, Bool.and_eq_true] at hB
    obtain ⟨⟨hr, hf⟩, hB'⟩ := hB
    have hcl' : Closed .any ops (listedTo ops (k + 1)) := hcl.set (by simpa using hr)
    have hl' : ∀ j, l[j]? = ops[k + 1 + j]? := fun j => by have := hl (j + 1); simpa [Nat.add_assoc, Nat.add_comm 1 j] using this
    have sole : soleB ops k = true → Region.ready .any ops (listedTo ops k) = [k] := fun hsole => by simpa [soleB] using hsole
    rcases h with ⟨v, hy, hK⟩ | ⟨hsole, hK⟩ | ⟨hsole, hlast, hend, hK⟩ | ⟨hsole, hcut, hK⟩
    · exact wpAnyL_first h0 (Region.noSelect_spec hs) l.length _ W a (Region.free_spec h0 hf) hcl (by simpa using hr) hy (wpL_lex hs l (k + 1) W _ hl' hcl' hB' hK)
    · have hsole' := sole hsole
      refine ⟨fun h => (by rw [h] at hsole'; cases hsole'), fun i hi w hw => ?_⟩
      have hik : i = k := by rw [hsole'] at hi; simpa using hi
      subst hik
      exact wpOp_mono (fun a' w' h3 => .inl ⟨h3.1, wpL_lex hs l (i + 1) w' a' hl' hcl' hB' h3.2⟩) (hK w hw)
    · have hsole' := sole hsole
      refine ⟨fun h => (by rw [h] at hsole'; cases hsole'), fun i hi w hw => ?_⟩
      have hik : i = k := by rw [hsole'] at hi; simpa using hi
      subst hik
      exact wpOp_mono (fun a' w' h3 => .inr (.inl ⟨hlast, hend, h3⟩)) (hK w hw)
    · have hsole' := sole hsole
      refine ⟨fun h => (by rw [h] at hsole'; cases hsole'), fun i hi w hw => ?_⟩
      have hik : i = k := by rw [hsole'] at hi; simpa using hi
      subst hik
      exact wpOp_mono (fun a' w' h3 => .inr (.inr ⟨hcut, h3.1, wpL_lex hs l (i + 1) w' a' hl' hcl' hB' h3.2⟩)) (hK w hw)

set_option maxRecDepth 100000 in
theorem wp_region_L {id : Nat} {Q : Exit → Act → World → Prop} {a : Act} {w : World} {l : List Oper} (hm : P.follows .mixedOrders = true) (hB : Region.lexB .any l.toArray = true)
    (h : wpL P l.toArray H late (fun a' w' => Q .normal a' w') l 0 w a) : (Code.region id l.toArray true).wp P Q a w := by
  simp only [Region.lexB, Bool.and_eq_true] at hB
  have h0 : wpL P l.toArray H late (fun a' w' => Q .normal a' w') l 0 w.drew a := by
    have key : ∀ (l' : List Oper) (k : Nat) (a : Act), wpL P l.toArray H late (fun a' w' => Q .normal a' w') l' k w a → wpL P l.toArray H late (fun a' w' => Q .normal a' w') l' k w.drew a := by
      intro l'
      induction l' with
      | nil => intro k a h w' hw'; exact h w' (((Ext.refl w).drew).trans hw')
      | cons o l' ih =>
        intro k a h
        rcases h with ⟨v, hy, hK⟩ | ⟨hs, hK⟩ | ⟨hs, h1, h2, hK⟩ | ⟨hs, h1, hK⟩
        · exact .inl ⟨v, hy.ext ((Ext.refl w).drew), ih _ _ hK⟩
        · exact .inr (.inl ⟨hs, fun w' hw' => hK w' (((Ext.refl w).drew).trans hw')⟩)
        · exact .inr (.inr (.inl ⟨hs, h1, h2, fun w' hw' => hK w' (((Ext.refl w).drew).trans hw')⟩))
        · exact .inr (.inr (.inr ⟨hs, h1, fun w' hw' => hK w' (((Ext.refl w).drew).trans hw')⟩))
    exact key l 0 a h
  have h1 := wpL_lex (P := P) (Q := fun a' w' => Q .normal a' w') hB.1 l 0 w.drew a (by simp) (Closed.start _ _ _) (by simpa [listedTo] using hB.2) h0
  exact wp_region_any hm (wpAny_of_L (fun _ _ h => h) _ _ _ _ (by simpa [listedTo] using h1))

set_option maxRecDepth 100000 in
/-- One operation at a time: a quiet one (or one whose guard says no). -/
theorem wpL_stepQ {Q : Act → World → Prop} {o : Oper} {rest : List Oper} {k : Nat} {W : World} {a : Act} (hl : late.contains k = false)
    (h : ∀ K : Act → Prop, (∀ a, wpL P ops H late Q rest (k + 1) W a → K a) → if Region.wanted o (yielded ops a.tmps) then ∃ v, QX P W o a v ∧ K (a.put o.dst v) else K (a.put o.dst undef)) : wpL P ops H late Q (o :: rest) k W a := by
  have h1 := h _ (fun _ h => h)
  by_cases hw : Region.wanted o (yielded ops a.tmps) = true
  · simp only [hw, if_true] at h1
    obtain ⟨v, hq, hK⟩ := h1
    exact .inl ⟨v, ⟨.inl ⟨hw, hq⟩, fun h => by rw [hl] at h; cases h⟩, hK⟩
  · simp only [hw] at h1
    have hw' : Region.wanted o (yielded ops a.tmps) = false := by simpa using hw
    exact .inl ⟨undef, ⟨.inr ⟨hw', rfl⟩, fun h => by rw [hl] at h; cases h⟩, h1⟩

set_option maxRecDepth 100000 in
/-- .. a quiet one that may come late: it reads below H alone. -/
theorem wpL_stepQL {Q : Act → World → Prop} {o : Oper} {rest : List Oper} {k : Nat} {W : World} {a : Act} (v : Value) (hg : o.guard = none) (hq : QL P H W o a v)
    (h : ∀ K : Act → Prop, (∀ a, wpL P ops H late Q rest (k + 1) W a → K a) → K (a.put o.dst v)) : wpL P ops H late Q (o :: rest) k W a := by
  have hw : Region.wanted o (yielded ops a.tmps) = true := by simp [Region.wanted, hg]
  have hy : YL P ops H W o v a := .inl ⟨hw, hq⟩
  exact .inl ⟨v, ⟨hy.yx, fun _ => hy⟩, h _ (fun _ h => h)⟩

set_option maxRecDepth 100000 in
/-- .. one that alone is ready. -/
theorem wpL_stepS {Q : Act → World → Prop} {o : Oper} {rest : List Oper} {k : Nat} {W : World} {a : Act} (ho : ops[k]? = some o) (hs : soleB ops k = true)
    (h : ∀ K : World → Act → Prop, (∀ W a, wpL P ops H late Q rest (k + 1) W a → K W a) → ∀ w, Ext W w →
      if Region.wanted o (yielded ops a.tmps) then o.wp P a w (fun a' w' => Ext w w' ∧ K w' a') NoExit else K w (a.put o.dst undef)) : wpL P ops H late Q (o :: rest) k W a := by
  refine .inr (.inl ⟨hs, fun w hw' => ?_⟩)
  have h1 := h _ (fun _ _ h => h) w hw'
  unfold wpOp
  simp only [ho]
  by_cases hw : Region.wanted o (yielded ops a.tmps) = true
  · simp only [hw, if_true] at h1 ⊢
    exact .inl h1
  · simp only [hw] at h1 ⊢
    exact ⟨Ext.refl _, h1⟩

set_option maxRecDepth 100000 in
/-- .. the last one, which may do anything. -/
theorem wpL_stepL {Q : Act → World → Prop} {o : Oper} {rest : List Oper} {k : Nat} {W : World} {a : Act} (ho : ops[k]? = some o) (hs : soleB ops k = true) (hl : lastB .any ops k = true)
    (he : (Region.ready .any ops (listedTo ops (k + 1))).isEmpty = true)
    (h : ∀ K : Act → World → Prop, (∀ a w, Q a w → K a w) → ∀ w, Ext W w → if Region.wanted o (yielded ops a.tmps) then o.wp P a w K NoExit else K (a.put o.dst undef) w) : wpL P ops H late Q (o :: rest) k W a := by
  refine .inr (.inr (.inl ⟨hs, hl, List.isEmpty_iff.1 he, fun w hw' => ?_⟩))
  have h1 := h _ (fun _ _ h => h) w hw'
  unfold wpOp
  simp only [ho]
  by_cases hw : Region.wanted o (yielded ops a.tmps) = true
  · simp only [hw, if_true] at h1 ⊢
    exact .inl h1
  · simp only [hw] at h1 ⊢
    exact h1

set_option maxRecDepth 100000 in
/-- .. one that stands before or behind every other one, and may do anything. -/
theorem wpL_stepC {Q : Act → World → Prop} {o : Oper} {rest : List Oper} {k : Nat} {W : World} {a : Act} (ho : ops[k]? = some o) (hs : (soleB ops k && cutLB .any ops late k) = true)
    (h : ∀ K : World → Act → Prop, (∀ W a, wpL P ops H late Q rest (k + 1) W a → K W a) → ∀ w, Ext W w →
      if Region.wanted o (yielded ops a.tmps) then o.wp P a w (fun a' w' => Low H w w' ∧ K w' a') NoExit else K w (a.put o.dst undef)) : wpL P ops H late Q (o :: rest) k W a := by
  rw [Bool.and_eq_true] at hs
  refine .inr (.inr (.inr ⟨hs.1, hs.2, fun w hw' => ?_⟩))
  have h1 := h _ (fun _ _ h => h) w hw'
  unfold wpOp
  simp only [ho]
  by_cases hw : Region.wanted o (yielded ops a.tmps) = true
  · simp only [hw, if_true] at h1 ⊢
    exact .inl h1
  · simp only [hw] at h1 ⊢
    exact ⟨Low.refl _ _, h1⟩

set_option maxRecDepth 100000 in
theorem wpL_nil {Q : Act → World → Prop} {k : Nat} {W : World} {a : Act} (h : ∀ w, Ext W w → Q a w) : wpL P ops H late Q [] k W a := h
end

set_option maxRecDepth 100000 in
theorem BlkF.setCells {g n : Nat} : ∀ (cs : List Value) (w : World) (f : Nat → Value) (o : Nat), BlkF w g n f → o + cs.length ≤ n →
    BlkF (w.setCells g o cs) g n (fun x => if o ≤ x ∧ x < o + cs.length then cs.getD (x - o) undef else f x)
  | [], w, f, o, h, _ => by
    refine BlkF.congr (f := f) h (fun x _ => ?_)
    have h0 : ¬ (o ≤ x ∧ x < o + ([] : List Value).length) := by simp only [List.length_nil]; omega
    rw [if_neg h0]
  | c :: cs, w, f, o, h, ho => by
    simp only [List.length_cons] at ho
    have h1 := BlkF.setCells cs _ _ (o + 1) (h.set o (by omega) c) (by omega)
    refine BlkF.congr (w := w.setCells g o (c :: cs)) h1 (fun x hx => ?_)
    simp only [List.length_cons]
    by_cases e : x = o
    · subst e
      have e1 : ¬ (x + 1 ≤ x ∧ x < x + 1 + cs.length) := by omega
      have e2 : x ≤ x ∧ x < x + (cs.length + 1) := by omega
      rw [if_neg e1, if_pos rfl, if_pos e2, Nat.sub_self]
      rfl
    · by_cases e2 : o + 1 ≤ x ∧ x < o + 1 + cs.length
      · have e3 : o ≤ x ∧ x < o + (cs.length + 1) := by omega
        rw [if_pos e2, if_pos e3]
        obtain ⟨k, hk⟩ : ∃ k, x - o = k + 1 := ⟨x - o - 1, by omega⟩
        rw [hk, show x - (o + 1) = k by omega]
        simp
      · have e3 : ¬ (o ≤ x ∧ x < o + (cs.length + 1)) := by omega
        rw [if_neg e2, if_neg e3, if_neg e]
set_option maxRecDepth 100000 in
theorem Ext.setCells {W : World} {g : Nat} (hg : W.heap.size ≤ g) : ∀ (cs : List Value) (w : World) (o : Nat), Ext W w → Ext W (w.setCells g o cs)
  | [], _, _, h => h
  | c :: cs, _, o, h => Ext.setCells hg cs _ (o + 1) (h.setCell hg c)

set_option maxRecDepth 100000 in
theorem run_copyB (w : World) (ty : TypeId) (g n o dLen dCap : Nat) (f : Nat → Value) (hB : BlkF w g n f) (a : Addr) (sLen sCap : Nat) (v : Int) (m : Nat) (hm : m = Nat.min sLen dLen) (ho : o + m ≤ n)
    (hsrc : ∀ j, j < m → w.cell? (a.add j) = some (.int .i64 v)) :
    (Builtin.copy_ #[31, 31] ty #[.slice (some ⟨g, o, none⟩) dLen dCap, .slice (some a) sLen sCap]).run Try.prog w = .ok (goInt m) (w.setCells g o (List.replicate m (.int .i64 v))) := by
  obtain ⟨i0, hi, hz0, hz1, hz2⟩ := info_parts info_int
  have h := run_copy_cells (P := Try.prog) w 31 31 ty 3 g o dLen dCap a sLen sCap (List.replicate m (.int .i64 v)) Try.underlying31 (by rw [hi]; simp [hz1]) (by simp [hm])
    (fun j u hj => by
      rw [List.getElem?_replicate] at hj
      split at hj
      · injection hj with hj; rw [← hj]; exact hsrc j (by assumption)
      · cases hj)
    (fun j hj => by rw [List.length_replicate] at hj; rw [hB.cell _ (by omega)]; rfl)
    (fun j _ => hB.fr _)
    (fun u hu => by rw [List.eq_of_mem_replicate hu]; rfl)
  rw [List.length_replicate] at h
  exact h
set_option maxRecDepth 100000 in
theorem oper_copyB {o : Oper} {a : Act} {w : World} {K : World → Act → Prop} (d s : Operand)
    (ho : o.op = .call { callee := .builtin .copy, args := #[d, s], argTypes := #[31, 31] }) (g n off dLen dCap : Nat) (f : Nat → Value) (hB : BlkF w g n f) (ad : Addr) (sLen sCap : Nat) (v : Int) (m : Nat)
    (hd : a.eval d = .slice (some ⟨g, off, none⟩) dLen dCap) (hs : a.eval s = .slice (some ad) sLen sCap) (hm : m = Nat.min sLen dLen) (hoff : off + m ≤ n)
    (hsrc : ∀ j, j < m → w.cell? (ad.add j) = some (.int .i64 v))
    (h : K (w.setCells g off (List.replicate m (.int .i64 v))) (a.put o.dst (.int .i64 (m : Int)))) : o.wp Try.prog a w (fun a' w' => K w' a') NoExit := by
  have hrun := run_copyB w o.type g n off dLen dCap f hB ad sLen sCap v m hm hoff hsrc
  unfold Oper.wp
  simp [execOp, ho, resolve, invoke, builtin, hd, hs, hrun, Result.andThen]
  exact h

/-- The cells of a list of n from which those from i on and below j are taken out. -/
def delF (n : Nat) (f : Nat → Value) (i j t : Nat) : Value := if t < i then f t else if t + (j - i) < n then f (t + (j - i)) else .int .i64 0

set_option maxRecDepth 100000 in
set_option maxHeartbeats 4000000 in
theorem del_impl (w : World) (g n c i j : Nat) (f : Nat → Value) (hB : BlkF w g n f) (hij : i < j) (hj : j ≤ n) (hc : n ≤ c) (h1 : ∀ t, t < n → (f t).oneCell' = true) :
    Calls Try.prog 77 #[.slice (some ⟨g, 0, none⟩) n c, .int .i64 i, .int .i64 j] w fun e w' => e = .returned (.slice (some ⟨g, 0, none⟩) (n - (j - i)) c) ∧ BlkF w' g n (delF n f i j) ∧ Only g w w' := by
  obtain ⟨i0, hi, hz0, hz1, hz2⟩ := info_parts info_int
  obtain ⟨news, hnews⟩ : ∃ news : List Value, news = (List.range (n - j)).map (fun t => f (j + t)) := ⟨_, rfl⟩
  have hlen : news.length = n - j := by rw [hnews]; simp
  have hget : ∀ t, t < n - j → news[t]? = some (f (j + t)) := fun t ht => by rw [hnews]; simp [ht]
  have hBd : BlkF w.drew g n f := hB.ext ((Ext.refl w).drew)
  obtain ⟨A, hA, hsrc⟩ : ∃ A : Addr, (if c = j then some (⟨g, 0, none⟩ : Addr) else some ⟨g, j, none⟩) = some A ∧ Hid (∀ (t : Nat) u, news[t]? = some u → w.drew.cell? (A.add t) = some u) := by
    by_cases h : c = j
    · refine ⟨⟨g, 0, none⟩, by simp [h], fun t u hu => ?_⟩
      have := lt_of_at hu
      omega
    · refine ⟨⟨g, j, none⟩, by simp [h], fun t u hu => ?_⟩
      have ht := lt_of_at hu
      rw [hlen] at ht
      rw [hget t ht] at hu
      injection hu with hu
      rw [Addr.add_lit, ← hu]
      exact hBd.cell (j + t) (by omega)
  have s1 : Hid (news.length = (n - j) * 1) := by show _ = _; rw [Nat.mul_one]; exact hlen
  have s2 : Hid (∀ u ∈ news, u.oneCell' = true) := by
    intro u hu
    rw [hnews, List.mem_map] at hu
    obtain ⟨t, ht, rfl⟩ := hu
    have := List.mem_range.1 ht
    exact h1 _ (by omega)
  have s3 : Hid (∀ t, t < news.length → (w.drew.cell? ⟨g, 0 + i * 1 + t, none⟩).isSome = true ∧ w.drew.frozen? ⟨g, 0 + i * 1 + t, none⟩ = false) := by
    intro t ht
    rw [hlen] at ht
    rw [Nat.mul_one, Nat.zero_add]
    exact ⟨by rw [hBd.cell (i + t) (by omega)]; rfl, hBd.fr _⟩
  obtain ⟨W1, hW1⟩ : ∃ W1 : World, W1 = w.drew.setCells g (0 + i * 1) news := ⟨_, rfl⟩
  have hB1 : BlkF W1 g n (fun t => if i ≤ t ∧ t < i + (n - j) then f (j + (t - i)) else f t) := by
    have h := BlkF.setCells news w.drew f (0 + i * 1) hBd (by rw [hlen]; omega)
    rw [← hW1] at h
    refine h.congr (fun t ht => ?_)
    rw [hlen]
    by_cases e : i ≤ t ∧ t < i + (n - j)
    · have e' : 0 + i * 1 ≤ t ∧ t < 0 + i * 1 + (n - j) := by omega
      rw [if_pos e, if_pos e', List.getD_eq_getElem?_getD, hget _ (by omega)]
      simp
    · have e' : ¬ (0 + i * 1 ≤ t ∧ t < 0 + i * 1 + (n - j)) := by omega
      rw [if_neg e, if_neg e']
  have hO1 : Only g w W1 := by
    have key : ∀ (cs : List Value) (w0 : World) (o : Nat), Only g w w0 → Only g w (w0.setCells g o cs) := by
      intro cs
      induction cs with
      | nil => intro w0 o h; exact h
      | cons x cs ih => intro w0 o h; exact ih _ _ (h.setCell o x)
    rw [hW1]
    exact key _ _ _ (Only.of_ext ((Ext.refl w).drew))
  have hcl : ∀ ty, (Builtin.clear_ #[31] ty #[.slice (some ⟨g, i + (n - j), none⟩) (n - (i + (n - j))) (c - (i + (n - j)))]).run Try.prog W1 = .ok (.tuple #[]) (W1.setCells g (i + (n - j)) (List.replicate (n - (i + (n - j))) (.int .i64 0))) :=
    fun ty => Lib.run_clear_slice W1 _ _ ty _ Try.underlying31 (fun w => by kernel_rfl) rfl rfl g (i + (n - j)) _ _ (by omega) (fun t ht => by rw [hB1.cell _ (by omega)]; rfl) (fun t ht => hB1.fr _)
  have HB := hide hB1
  have HO := hide hO1
  have hW : Hid (W1 = w.drew.setCells g (0 + i * 1) news) := hW1
  have hic : i ≤ c := by omega
  have hjc : j ≤ c := by omega
  have hin : i ≤ n := by omega
  clear hW1 hB1 hO1 hBd hB hget hnews hlen h1
  go_enter Try.func77, Try.ntmps77
  go_wp2_with fail
  go_region_law (refine step_append_room rfl (.tmp 22) (.tmp 25) 31 rfl 3 i0 1 Try.underlying31 hi hz1 g 0 i c (by simp [Act.eval, Act.put]) A (n - j) (c - j) news (by simp [Act.eval, Act.put]) s1.out hsrc.out s2.out (by omega) s3.out ?_; rw [← hW.out])
  go_wp2
  go_ret
  have hfin := BlkF.setCells (List.replicate (n - (i + (n - j))) (.int .i64 0)) W1 _ (i + (n - j)) HB.out (by rw [List.length_replicate]; omega)
  have key : ∀ (cs : List Value) (w0 : World) (o : Nat), Only g w w0 → Only g w (w0.setCells g o cs) := by
    intro cs
    induction cs with
    | nil => intro w0 o h; exact h
    | cons x cs ih => intro w0 o h; exact ih _ _ (h.setCell o x)
  refine ⟨by rw [show n - (j - i) = i + (n - j) by omega]; rfl, hfin.congr (fun t ht => ?_), key _ _ _ HO.out⟩
  unfold delF
  rw [List.length_replicate]
  by_cases e1 : i + (n - j) ≤ t ∧ t < i + (n - j) + (n - (i + (n - j)))
  · rw [if_pos e1, List.getD_eq_getElem?_getD, List.getElem?_replicate, if_pos (by omega), if_neg (by omega), if_neg (by omega)]; rfl
  · rw [if_neg e1]
    by_cases e2 : t < i
    · rw [if_neg (by omega), if_pos e2]
    · rw [if_pos (by omega), if_neg e2, if_pos (by omega), show j + (t - i) = t + (j - i) by omega]

set_option maxRecDepth 100000 in
theorem BlkF.le {w : World} {g n m : Nat} {f : Nat → Value} (h : BlkF w g n f) (hm : m ≤ n) : BlkF w g m f := ⟨h.lt, h.fr, fun o ho => h.cell o (by omega)⟩
set_option maxRecDepth 100000 in
/-- One is taken out. -/
theorem del1 (w : World) (g n c i : Nat) (f : Nat → Value) (hB : BlkF w g n f) (hi : i < n) (hc : n ≤ c) (h1 : ∀ t, t < n → (f t).oneCell' = true) :
    Calls Try.prog 77 #[.slice (some ⟨g, 0, none⟩) n c, .int .i64 (i : Int), .int .i64 ((i : Int) + 1)] w fun e w' => e = .returned (.slice (some ⟨g, 0, none⟩) (n - 1) c) ∧ BlkF w' g (n - 1) (fun t => if t < i then f t else f (t + 1)) ∧ Only g w w' := by
  have h := del_impl w g n c i (i + 1) f hB (by omega) (by omega) hc h1
  have e : ((i + 1 : Nat) : Int) = (i : Int) + 1 := by omega
  rw [e] at h
  refine h.mono ?_
  rintro e w' ⟨rfl, hB', hO⟩
  refine ⟨by rw [show n - (i + 1 - i) = n - 1 by omega], (hB'.le (by omega)).congr (fun t ht => ?_), hO⟩
  unfold delF
  by_cases e2 : t < i
  · rw [if_pos e2, if_pos e2]
  · rw [if_neg e2, if_neg e2, if_pos (by omega), show t + (i + 1 - i) = t + 1 by omega]

end Go.Proofs.Ytkbbcglghfddjaa
