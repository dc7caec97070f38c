/- A drawn region in which some loads may come behind an operation that writes: they read below H, and it writes from H on. slices' insertion sort with a function, over integers. slices' stable sort with a function, of a short list. -/
import Derived.Test.YtilcdnkkabmbfaaGreatCk0
import Derived.Test.YtilcdnkkabmbfaaGreatCk7
import Derived.Test.YtilcdnkkabmbfaaGreatCk11
namespace Go.Proofs.YtilcdnkkabmbfaaGreat
open Go.RowKit

/-- All blocks below H are as they were. -/
structure Low (H : Nat) (w w' : World) : Prop where
  size : w.heap.size ≤ w'.heap.size
  block : ∀ k, k < H → k < w.heap.size → w'.heap[k]? = w.heap[k]?
set_option maxRecDepth 100000 in
theorem Low.refl (H : Nat) (w : World) : Low H w w := ⟨Nat.le_refl _, fun _ _ _ => rfl⟩
set_option maxRecDepth 100000 in
theorem Low.trans {H : Nat} {a b c : World} (h : Low H a b) (k : Low H b c) : Low H a c := ⟨Nat.le_trans h.size k.size, fun i hi hl => (k.block i hi (Nat.lt_of_lt_of_le hl h.size)).trans (h.block i hi hl)⟩
set_option maxRecDepth 100000 in
theorem Low.of_ext {H : Nat} {w w' : World} (h : Ext w w') : Low H w w' := ⟨h.size, fun k _ hl => Below.block h k hl⟩
set_option maxRecDepth 100000 in
theorem Low.keep {H : Nat} {w w' : World} (h : Low H w w') {p : Addr} {v : Value} (hp : p.block < H) (hc : w.cell? p = some v) : w'.cell? p = some v :=
  (World.cell?_of_block (w := w) (h.block p.block hp (World.block_lt_of_cell? w p hc))).trans hc

section
variable {P : Program} {ops : Array Oper} {md : Region.Mode} {H : Nat} {late : List Nat}

def QL (P : Program) (H : Nat) (W : World) (o : Oper) (a : Act) (v : Value) : Prop := ∀ w, Low H W w → qxUpon P w v ((execOp a.eval o).run P w)
def YL (P : Program) (ops : Array Oper) (H : Nat) (W : World) (o : Oper) (v : Value) (a : Act) : Prop :=
  (Region.wanted o (yielded ops a.tmps) = true ∧ QL P H W o a v) ∨ (Region.wanted o (yielded ops a.tmps) = false ∧ v = undef)
set_option maxRecDepth 100000 in
theorem YL.yx {W : World} {o : Oper} {v : Value} {a : Act} (h : YL P ops H W o v a) : YX P ops W o v a := h.imp (fun ⟨h1, h2⟩ => ⟨h1, fun w hw => h2 w (Low.of_ext hw)⟩) id
set_option maxRecDepth 100000 in
theorem YL.low {W W' : World} {o : Oper} {v : Value} {a : Act} (h : YL P ops H W o v a) (hW : Low H W W') : YL P ops H W' o v a :=
  h.imp (fun ⟨h1, h2⟩ => ⟨h1, fun w hw => h2 w (hW.trans hw)⟩) id
set_option maxRecDepth 100000 in
theorem YL.of_same {W : World} {o : Oper} {v : Value} {a a' : Act} (hy : YL P ops H W o v a) (he : execOp a'.eval o = execOp a.eval o)
    (hw : Region.wanted o (yielded ops a'.tmps) = Region.wanted o (yielded ops a.tmps)) : YL P ops H W o v a' := by
  unfold YL QL at *
  rw [he, hw]
  exact hy
def Y2 (P : Program) (ops : Array Oper) (H : Nat) (lt : Bool) (W : World) (o : Oper) (v : Value) (a : Act) : Prop := YX P ops W o v a ∧ (lt = true → YL P ops H W o v a)
set_option maxRecDepth 100000 in
theorem Y2.of_same {lt : Bool} {W : World} {o : Oper} {v : Value} {a a' : Act} (hy : Y2 P ops H lt W o v a) (he : execOp a'.eval o = execOp a.eval o)
    (hw : Region.wanted o (yielded ops a'.tmps) = Region.wanted o (yielded ops a.tmps)) : Y2 P ops H lt W o v a' := ⟨hy.1.of_same he hw, fun h => (hy.2 h).of_same he hw⟩
set_option maxRecDepth 100000 in
theorem Y2.ext {lt : Bool} {W W' : World} {o : Oper} {v : Value} {a : Act} (hy : Y2 P ops H lt W o v a) (hW : Ext W W') : Y2 P ops H lt W' o v a := ⟨hy.1.mono hW, fun h => (hy.2 h).low (Low.of_ext hW)⟩
set_option maxRecDepth 100000 in
theorem Y2.mono {lt : Bool} {W W' : World} {o : Oper} {v : Value} {a : Act} (hy : Y2 P ops H lt W o v a) (hW : Ext W W') : Y2 P ops H lt W' o v a := hy.ext hW

/-- Operation j stands before or behind every other one (plain moves and the late ones aside). -/
def cutLB (md : Region.Mode) (ops : Array Oper) (late : List Nat) (j : Nat) : Bool :=
  (List.range ops.size).all fun i => i == j || moveB ops i || late.contains i || if i < j then ancB md ops ops.size j i else ancB md ops ops.size i j
set_option maxRecDepth 100000 in
theorem cutL_no {listed : Array Bool} (hc : Closed md ops listed) {i j : Nat} (h : cutLB md ops late j = true) (hi : i ∈ Region.ready md ops listed) (hj : j ∈ Region.ready md ops listed) (hne : i ≠ j) : moveB ops i = true ∨ late.contains i = true := by
  have two : ∀ {i : Nat} {listed : Array Bool}, listed.getD i true = false → listed.getD i false = true → False := fun {i listed} h1 h2 => by
    rcases Nat.lt_or_ge i listed.size with h' | h'
    · simp [h'] at h1 h2; rw [h1] at h2; cases h2
    · simp [Array.getElem?_eq_none h'] at h2
  obtain ⟨hi0, oi, hoi, hia⟩ := mem_ready.1 hi
  obtain ⟨hj0, oj, hoj, hja⟩ := mem_ready.1 hj
  simp only [cutLB, List.all_eq_true, List.mem_range] at h
  have h1 := h i (Array.getElem?_eq_some_iff.1 hoi).1
  rw [Bool.or_eq_true, Bool.or_eq_true, Bool.or_eq_true] at h1
  rcases h1 with ((h1 | h1) | h1) | h1
  · exact absurd (by simpa using h1) hne
  · exact .inl h1
  · exact .inr h1
  split at h1
  · exact (two hi0 (anc_listed hc _ j oj hoj hja h1)).elim
  · exact (two hj0 (anc_listed hc _ i oi hoi hia h1)).elim

/-- Whatever order is picked from here on, from every world that grew out of W. -/
def wpAnyL (P : Program) (md : Region.Mode) (ops : Array Oper) (H : Nat) (late : List Nat) (Q : Act → World → Prop) : Nat → Array Bool → World → Act → Prop
  | 0, listed, W, a => Region.ready md ops listed = [] ∧ ∀ w, Ext W w → Q a w
  | fuel + 1, listed, W, a =>
    (Region.ready md ops listed = [] → ∀ w, Ext W w → Q a w) ∧
    ∀ i ∈ Region.ready md ops listed, ∀ w, Ext W w → wpOp P ops NoExit i (fun a' w' => (Ext w w' ∧ wpAnyL P md ops H late Q fuel (listed.setIfInBounds i true) w' a') ∨
      (lastB md ops i = true ∧ Region.ready md ops (listed.setIfInBounds i true) = [] ∧ Q a' w') ∨ (cutLB md ops late i = true ∧ Low H w w' ∧ wpAnyL P md ops H late Q fuel (listed.setIfInBounds i true) w' a')) a w

set_option maxRecDepth 100000 in
theorem wpAnyL.mono {Q : Act → World → Prop} : ∀ (fuel : Nat) (listed : Array Bool) {W W' : World} {a : Act}, wpAnyL P md ops H late Q fuel listed W a → Ext W W' → wpAnyL P md ops H late Q fuel listed W' a
  | 0, _, _, _, _, h, hW => ⟨h.1, fun w hw => h.2 w (hW.trans hw)⟩
  | _ + 1, _, _, _, _, h, hW => ⟨fun h0 w hw => h.1 h0 w (hW.trans hw), fun i hi w hw => h.2 i hi w (hW.trans hw)⟩

set_option maxRecDepth 100000 in
theorem wpAny_of_L {Q : Act → World → Prop} {Q' : Exit → Act → World → Prop} (hQ : ∀ a w, Q a w → Q' .normal a w) : ∀ (fuel : Nat) (listed : Array Bool) (W : World) (a : Act),
    wpAnyL P md ops H late Q fuel listed W a → wpAny P md ops Q' fuel listed a W
  | 0, _, W, _, h => ⟨h.1, hQ _ _ (h.2 W (Ext.refl _))⟩
  | fuel + 1, listed, W, a, h => ⟨fun h0 => hQ _ _ (h.1 h0 W (Ext.refl _)), fun i hi => by
      have h1 := h.2 i hi W (Ext.refl _)
      have fin : ∀ {a' : Act} {w w' : World}, ((Ext w w' ∧ wpAnyL P md ops H late Q fuel (listed.setIfInBounds i true) w' a') ∨ (lastB md ops i = true ∧ Region.ready md ops (listed.setIfInBounds i true) = [] ∧ Q a' w') ∨ (cutLB md ops late i = true ∧ Low H w w' ∧ wpAnyL P md ops H late Q fuel (listed.setIfInBounds i true) w' a')) →
          wpAny P md ops Q' fuel (listed.setIfInBounds i true) a' w' := fun hh => hh.elim (fun h2 => wpAny_of_L hQ fuel _ _ _ h2.2) (fun h2 => h2.elim (fun h2 => wpAny_end h2.2.1 (hQ _ _ h2.2.2)) (fun h2 => wpAny_of_L hQ fuel _ _ _ h2.2.2))
      unfold wpOp at *
      split
      · rename_i ho; simp only [ho] at h1; exact fin h1
      · rename_i o ho
        simp only [ho] at h1
        split
        · rename_i hw
          simp only [hw, if_true] at h1
          rcases h1 with h1 | ⟨_, h1⟩
          · refine .inl ?_
            unfold Oper.wp at *
            generalize (execOp a.eval o).run P W = r at *
            cases r with
            | ok n w' =>
              cases n <;> simp only [Oper.upon] at h1 ⊢
              case value u => exact fin h1
              case skip => exact fin h1
              case defer d => exact fin h1
              case enter f args =>
                refine Calls.mono h1 fun e w'' he => ?_
                cases e with
                | returned u => exact fin he
                | panicked c => exact he.elim
                | outgrown => exact (noLets he).elim
              case row row args => exact Rows.mono h1 fun u w'' he => fin he
            | halt x w' => cases x <;> simp only [Oper.upon] at h1 ⊢ <;> exact h1.elim
          · exact (noLets h1).elim
        · rename_i hw
          simp only [hw] at h1
          exact fin h1⟩

set_option maxRecDepth 100000 in
theorem wpOp_putY {j : Nat} {oi oj : Oper} {v : Value} (Y : Act → Prop) (hsame : ∀ a a' : Act, Y a → execOp a'.eval oi = execOp a.eval oi → Region.wanted oi (yielded ops a'.tmps) = Region.wanted oi (yielded ops a.tmps) → Y a') (hj : ops[j]? = some oj) (hap : oi.apart ops oj = true)
    (hsi : ∀ cs b, oi.op ≠ .select cs b) (hsj : ∀ cs b, oj.op ≠ .select cs b) {K : Act → World → Prop} {a : Act} {w : World}
    (hy : Y a) (h : wpOp P ops NoExit j K (a.put oi.dst v) w) :
    wpOp P ops NoExit j (fun a' w' => Y a' ∧ K (a'.put oi.dst v) w') a w := by
  obtain ⟨h1, h2, h3⟩ := Oper.apart_spec hap
  have keep : ∀ (a : Act), Y a → ∀ u, Y (a.put oj.dst u) := fun a hy u =>
    hsame _ _ hy (execOp_put oi hsi a oj.dst u h3) (wanted_put oi a oj.dst u h3)
  have keepD : ∀ d, Y { a with defers := d :: a.defers } := fun d => hsame _ _ hy rfl rfl
  unfold wpOp at *
  simp only [hj] at *
  rw [wanted_put oj a oi.dst v h1] at h
  split
  · rename_i hw
    simp only [hw, if_true] at h
    rcases h with h | ⟨_, hlets⟩
    case inr => exact (noLets hlets).elim
    refine .inl ?_
    unfold Oper.wp at *
    rw [execOp_put oj hsj a oi.dst v h1] at h
    generalize (execOp a.eval oj).run P w = r at *
    cases r with
    | ok n w' =>
      cases n <;> simp only [Oper.upon] at h ⊢
      case value u => exact ⟨keep a hy u, by rw [← Act.put_comm a v u h2]; exact h⟩
      case skip => exact ⟨keep a hy _, by rw [← Act.put_comm a v undef h2]; exact h⟩
      case defer d =>
        refine ⟨keep _ (keepD d) _, ?_⟩
        rw [← Act.put_comm _ v undef h2, ← Act.put_defers]
        exact h
      case enter f args =>
        refine Calls.mono h fun e w'' he => ?_
        cases e with
        | returned u => exact ⟨keep a hy u, by rw [← Act.put_comm a v u h2]; exact he⟩
        | panicked c => exact he
        | outgrown => exact he
      case row row args => exact Rows.mono h fun u w'' he => ⟨keep a hy u, by rw [← Act.put_comm a v u h2]; exact he⟩
    | halt x w' =>
      cases x <;> simp only [Oper.upon] at h ⊢ <;> exact h
  · rename_i hw
    simp only [hw] at h
    exact ⟨keep a hy _, by rw [← Act.put_comm a v undef h2]; exact h⟩

set_option maxRecDepth 100000 in
theorem wpAnyL_first {Q : Act → World → Prop} {i : Nat} {oi : Oper} {v : Value} (hi : ops[i]? = some oi) (hsel : ∀ (j : Nat) (o : Oper) cs b, ops[j]? = some o → o.op ≠ .select cs b) :
    ∀ (fuel : Nat) (listed : Array Bool) (W : World) (a : Act),
      (∀ j oj, ops[j]? = some oj → j ≠ i → listed.getD j true = false → (∀ e ∈ oj.after, Region.binds md e = true → e.on ≠ i) → oi.apart ops oj = true) →
      Closed md ops listed → i ∈ Region.ready md ops listed → Y2 P ops H (late.contains i) W oi v a →
      wpAnyL P md ops H late Q fuel (listed.setIfInBounds i true) W (a.put oi.dst v) → wpAnyL P md ops H late Q (fuel + 1) listed W a := by
  intro fuel
  induction fuel with
  | zero =>
    intro listed W a _ _ hr hy HH
    refine ⟨fun h => (by rw [h] at hr; cases hr), fun j hj w hw => ?_⟩
    by_cases hji : j = i
    · subst hji; exact hy.1.wpOp hi hw fun w' hw' => .inl ⟨hw', HH.mono _ _ (hw.trans hw')⟩
    · have := ready_mono hj hji
      rw [HH.1] at this
      cases this
  | succ fuel ih =>
    intro listed W a hfree hcl hr hy HH
    refine ⟨fun h => (by rw [h] at hr; cases hr), fun j hj w hw => ?_⟩
    by_cases hji : j = i
    · subst hji; exact hy.1.wpOp hi hw fun w' hw' => .inl ⟨hw', HH.mono _ _ (hw.trans hw')⟩
    · have h1 := HH.2 j (ready_mono hj hji) w hw
      obtain ⟨hjun, oj, hoj, hall⟩ := mem_ready.1 hj
      have hnot : ∀ e ∈ oj.after, Region.binds md e = true → e.on ≠ i := fun e he hb heq => by
        have h1 := hall e he hb
        have h0 := (mem_ready.1 hr).1
        rw [heq] at h1
        rcases Nat.lt_or_ge i listed.size with h' | h'
        · simp [h'] at h0 h1; rw [h0] at h1; cases h1
        · simp [Array.getElem?_eq_none h'] at h1
      have h2 := wpOp_putY (Y2 P ops H (late.contains i) W oi v) (fun _ _ hy he hw => hy.of_same he hw) hoj (hfree j oj hoj hji hjun hnot) (fun cs b => hsel i oi cs b hi) (fun cs b => hsel j oj cs b hoj) hy h1
      have hfree' : ∀ k ok, ops[k]? = some ok → k ≠ i → (listed.setIfInBounds j true).getD k true = false →
          (∀ e ∈ ok.after, Region.binds md e = true → e.on ≠ i) → oi.apart ops ok = true := fun k ok hk hki hun hno => by
        refine hfree k ok hk hki ?_ hno
        by_cases hjk : j = k
        · subst hjk; exact hjun
        · rw [getD_set_ne true hjk] at hun; exact hun
      refine wpOp_mono (fun a' w' h3 => ?_) h2
      rcases h3 with ⟨h3, h4 | h4 | h4⟩
      · refine .inl ⟨h4.1, ih (listed.setIfInBounds j true) w' a' hfree' (hcl.set hj) (ready_mono hr (Ne.symm hji)) (h3.mono (hw.trans h4.1)) ?_⟩
        rw [Array.setIfInBounds_comm _ _ hji]
        exact h4.2
      · obtain ⟨e, he, hb, heq⟩ := lastB_spec h4.1 hoj (Array.getElem?_eq_some_iff.1 hi).1 (Ne.symm hji)
        exact absurd heq (hnot e he hb)
      · have hy3 : Y2 P ops H (late.contains i) w' oi v a' := by
          rcases cutL_no hcl h4.1 hr hj (Ne.symm hji) with hm | hl
          · obtain ⟨x, hx⟩ := moveB_spec hm hi
            exact ⟨h3.1.move hx, fun hl => (h3.2 hl).low ((Low.of_ext hw).trans h4.2.1)⟩
          · have h5 := (h3.2 hl).low ((Low.of_ext hw).trans h4.2.1)
            exact ⟨h5.yx, fun _ => h5⟩
        refine .inr (.inr ⟨h4.1, h4.2.1, ih (listed.setIfInBounds j true) w' a' hfree' (hcl.set hj) (ready_mono hr (Ne.symm hji)) hy3 ?_⟩)
        rw [Array.setIfInBounds_comm _ _ hji]
        exact h4.2.2

/-- THE WALK IN THE ORDER OF THE TEXT. -/
def wpL (P : Program) (ops : Array Oper) (H : Nat) (late : List Nat) (Q : Act → World → Prop) : List Oper → Nat → World → Act → Prop
  | [], _, W, a => ∀ w, Ext W w → Q a w
  | o :: rest, k, W, a =>
    (∃ v, Y2 P ops H (late.contains k) W o v a ∧ wpL P ops H late Q rest (k + 1) W (a.put o.dst v)) ∨
    (soleB ops k = true ∧ ∀ w, Ext W w → wpOp P ops NoExit k (fun a' w' => Ext w w' ∧ wpL P ops H late Q rest (k + 1) w' a') a w) ∨
    (soleB ops k = true ∧ lastB .any ops k = true ∧ Region.ready .any ops (listedTo ops (k + 1)) = [] ∧ ∀ w, Ext W w → wpOp P ops NoExit k (fun a' w' => Q a' w') a w) ∨
    (soleB ops k = true ∧ cutLB .any ops late k = true ∧ ∀ w, Ext W w → wpOp P ops NoExit k (fun a' w' => Low H w w' ∧ wpL P ops H late Q rest (k + 1) w' a') a w)

set_option maxRecDepth 100000 in
theorem wpL_lex {Q : Act → World → Prop} (hs : Region.noSelect ops = true) : ∀ (l : List Oper) (k : Nat) (W : World) (a : Act), (∀ j, l[j]? = ops[k + j]?) → Closed .any ops (listedTo ops k) →
    Region.lexFrom .any ops l.length k (listedTo ops k) = true → wpL P ops H late Q l k W a → wpAnyL P .any ops H late Q l.length (listedTo ops k) W a
  | [], _, _, _, _, _, hB, h => ⟨by simpa [Region.lexFrom] using hB, h⟩
  | o :: l, k, W, a, hl, hcl, hB, h => by
    have h0 : ops[k]? = some o := by simpa using (hl 0).symm
    simp only [List.length_cons, Region.lexFrom, Bool.and_eq_true] at hB
    obtain ⟨⟨hr, hf⟩, hB'⟩ := hB
    have hcl' : Closed .any ops (listedTo ops (k + 1)) := hcl.set (by simpa using hr)
    have hl' : ∀ j, l[j]? = ops[k + 1 + j]? := fun j => by have := hl (j + 1); simpa [Nat.add_assoc, Nat.add_comm 1 j] using this
    have sole : soleB ops k = true → Region.ready .any ops (listedTo ops k) = [k] := fun hsole => by simpa [soleB] using hsole
    rcases h with ⟨v, hy, hK⟩ | ⟨hsole, hK⟩ | ⟨hsole, hlast, hend, hK⟩ | ⟨hsole, hcut, hK⟩
    · exact wpAnyL_first h0 (Region.noSelect_spec hs) l.length _ W a (Region.free_spec h0 hf) hcl (by simpa using hr) hy (wpL_lex hs l (k + 1) W _ hl' hcl' hB' hK)
    · have hsole' := sole hsole
      refine ⟨fun h => (by rw [h] at hsole'; cases hsole'), fun i hi w hw => ?_⟩
      have hik : i = k := by rw [hsole'] at hi; simpa using hi
      subst hik
      exact wpOp_mono (fun a' w' h3 => .inl ⟨h3.1, wpL_lex hs l (i + 1) w' a' hl' hcl' hB' h3.2⟩) (hK w hw)
    · have hsole' := sole hsole
      refine ⟨fun h => (by rw [h] at hsole'; cases hsole'), fun i hi w hw => ?_⟩
      have hik : i = k := by rw [hsole'] at hi; simpa using hi
      subst hik
      exact wpOp_mono (fun a' w' h3 => .inr (.inl ⟨hlast, hend, h3⟩)) (hK w hw)
    · have hsole' := sole hsole
      refine ⟨fun h => (by rw [h] at hsole'; cases hsole'), fun i hi w hw => ?_⟩
      have hik : i = k := by rw [hsole'] at hi; simpa using hi
      subst hik
      exact wpOp_mono (fun a' w' h3 => .inr (.inr ⟨hcut, h3.1, wpL_lex hs l (i + 1) w' a' hl' hcl' hB' h3.2⟩)) (hK w hw)

set_option maxRecDepth 100000 in
theorem wp_region_L {id : Nat} {Q : Exit → Act → World → Prop} {a : Act} {w : World} {l : List Oper} (hm : P.follows .mixedOrders = true) (hB : Region.lexB .any l.toArray = true)
    (h : wpL P l.toArray H late (fun a' w' => Q .normal a' w') l 0 w a) : (Code.region id l.toArray true).wp P Q a w := by
  simp only [Region.lexB, Bool.and_eq_true] at hB
  have h0 : wpL P l.toArray H late (fun a' w' => Q .normal a' w') l 0 w.drew a := by
    have key : ∀ (l' : List Oper) (k : Nat) (a : Act), wpL P l.toArray H late (fun a' w' => Q .normal a' w') l' k w a → wpL P l.toArray H late (fun a' w' => Q .normal a' w') l' k w.drew a := by
      intro l'
      induction l' with
      | nil => intro k a h w' hw'; exact h w' (((Ext.refl w).drew).trans hw')
      | cons o l' ih =>
        intro k a h
        rcases h with ⟨v, hy, hK⟩ | ⟨hs, hK⟩ | ⟨hs, h1, h2, hK⟩ | ⟨hs, h1, hK⟩
        · exact .inl ⟨v, hy.ext ((Ext.refl w).drew), ih _ _ hK⟩
        · exact .inr (.inl ⟨hs, fun w' hw' => hK w' (((Ext.refl w).drew).trans hw')⟩)
        · exact .inr (.inr (.inl ⟨hs, h1, h2, fun w' hw' => hK w' (((Ext.refl w).drew).trans hw')⟩))
        · exact .inr (.inr (.inr ⟨hs, h1, fun w' hw' => hK w' (((Ext.refl w).drew).trans hw')⟩))
    exact key l 0 a h
  have h1 := wpL_lex (P := P) (Q := fun a' w' => Q .normal a' w') hB.1 l 0 w.drew a (by simp) (Closed.start _ _ _) (by simpa [listedTo] using hB.2) h0
  exact wp_region_any hm (wpAny_of_L (fun _ _ h => h) _ _ _ _ (by simpa [listedTo] using h1))

set_option maxRecDepth 100000 in
/-- One operation at a time: a quiet one (or one whose guard says no). -/
theorem wpL_stepQ {Q : Act → World → Prop} {o : Oper} {rest : List Oper} {k : Nat} {W : World} {a : Act} (hl : late.contains k = false)
    (h : ∀ K : Act → Prop, (∀ a, wpL P ops H late Q rest (k + 1) W a → K a) → if Region.wanted o (yielded ops a.tmps) then ∃ v, QX P W o a v ∧ K (a.put o.dst v) else K (a.put o.dst undef)) : wpL P ops H late Q (o :: rest) k W a := by
  have h1 := h _ (fun _ h => h)
  by_cases hw : Region.wanted o (yielded ops a.tmps) = true
  · simp only [hw, if_true] at h1
    obtain ⟨v, hq, hK⟩ := h1
    exact .inl ⟨v, ⟨.inl ⟨hw, hq⟩, fun h => by rw [hl] at h; cases h⟩, hK⟩
  · simp only [hw] at h1
    have hw' : Region.wanted o (yielded ops a.tmps) = false := by simpa using hw
    exact .inl ⟨undef, ⟨.inr ⟨hw', rfl⟩, fun h => by rw [hl] at h; cases h⟩, h1⟩

set_option maxRecDepth 100000 in
/-- .. a quiet one that may come late: it reads below H alone. -/
theorem wpL_stepQL {Q : Act → World → Prop} {o : Oper} {rest : List Oper} {k : Nat} {W : World} {a : Act} (v : Value) (hg : o.guard = none) (hq : QL P H W o a v)
    (h : ∀ K : Act → Prop, (∀ a, wpL P ops H late Q rest (k + 1) W a → K a) → K (a.put o.dst v)) : wpL P ops H late Q (o :: rest) k W a := by
  have hw : Region.wanted o (yielded ops a.tmps) = true := by simp [Region.wanted, hg]
  have hy : YL P ops H W o v a := .inl ⟨hw, hq⟩
  exact .inl ⟨v, ⟨hy.yx, fun _ => hy⟩, h _ (fun _ h => h)⟩

set_option maxRecDepth 100000 in
/-- .. one that alone is ready. -/
theorem wpL_stepS {Q : Act → World → Prop} {o : Oper} {rest : List Oper} {k : Nat} {W : World} {a : Act} (ho : ops[k]? = some o) (hs : soleB ops k = true)
    (h : ∀ K : World → Act → Prop, (∀ W a, wpL P ops H late Q rest (k + 1) W a → K W a) → ∀ w, Ext W w →
      if Region.wanted o (yielded ops a.tmps) then o.wp P a w (fun a' w' => Ext w w' ∧ K w' a') NoExit else K w (a.put o.dst undef)) : wpL P ops H late Q (o :: rest) k W a := by
  refine .inr (.inl ⟨hs, fun w hw' => ?_⟩)
  have h1 := h _ (fun _ _ h => h) w hw'
  unfold wpOp
  simp only [ho]
  by_cases hw : Region.wanted o (yielded ops a.tmps) = true
  · simp only [hw, if_true] at h1 ⊢
    exact .inl h1
  · simp only [hw] at h1 ⊢
    exact ⟨Ext.refl _, h1⟩

set_option maxRecDepth 100000 in
/-- .. the last one, which may do anything. -/
theorem wpL_stepL {Q : Act → World → Prop} {o : Oper} {rest : List Oper} {k : Nat} {W : World} {a : Act} (ho : ops[k]? = some o) (hs : soleB ops k = true) (hl : lastB .any ops k = true)
    (he : (Region.ready .any ops (listedTo ops (k + 1))).isEmpty = true)
    (h : ∀ K : Act → World → Prop, (∀ a w, Q a w → K a w) → ∀ w, Ext W w → if Region.wanted o (yielded ops a.tmps) then o.wp P a w K NoExit else K (a.put o.dst undef) w) : wpL P ops H late Q (o :: rest) k W a := by
  refine .inr (.inr (.inl ⟨hs, hl, List.isEmpty_iff.1 he, fun w hw' => ?_⟩))
  have h1 := h _ (fun _ _ h => h) w hw'
  unfold wpOp
  simp only [ho]
  by_cases hw : Region.wanted o (yielded ops a.tmps) = true
  · simp only [hw, if_true] at h1 ⊢
    exact .inl h1
  · simp only [hw] at h1 ⊢
    exact h1

set_option maxRecDepth 100000 in
/-- .. one that stands before or behind every other one, and may do anything. -/
theorem wpL_stepC {Q : Act → World → Prop} {o : Oper} {rest : List Oper} {k : Nat} {W : World} {a : Act} (ho : ops[k]? = some o) (hs : (soleB ops k && cutLB .any ops late k) = true)
    (h : ∀ K : World → Act → Prop, (∀ W a, wpL P ops H late Q rest (k + 1) W a → K W a) → ∀ w, Ext W w →
      if Region.wanted o (yielded ops a.tmps) then o.wp P a w (fun a' w' => Low H w w' ∧ K w' a') NoExit else K w (a.put o.dst undef)) : wpL P ops H late Q (o :: rest) k W a := by
  rw [Bool.and_eq_true] at hs
  refine .inr (.inr (.inr ⟨hs.1, hs.2, fun w hw' => ?_⟩))
  have h1 := h _ (fun _ _ h => h) w hw'
  unfold wpOp
  simp only [ho]
  by_cases hw : Region.wanted o (yielded ops a.tmps) = true
  · simp only [hw, if_true] at h1 ⊢
    exact .inl h1
  · simp only [hw] at h1 ⊢
    exact ⟨Low.refl _ _, h1⟩

set_option maxRecDepth 100000 in
theorem wpL_nil {Q : Act → World → Prop} {k : Nat} {W : World} {a : Act} (h : ∀ w, Ext W w → Q a w) : wpL P ops H late Q [] k W a := h
end

/-- x at place j of S, and what follows. -/
def layL {α : Type} (S : List α) (x : α) (rest : List α) (j : Nat) : List α := S.take j ++ x :: (S.drop j ++ rest)
set_option maxRecDepth 100000 in
theorem layL_at {α : Type} {S rest : List α} {x : α} {j : Nat} (hj : j ≤ S.length) (o : Nat) : (layL S x rest j)[o]? = if o < j then S[o]? else if o = j then some x else (S ++ rest)[o - 1]? := by
  unfold layL
  by_cases h1 : o < j
  · rw [if_pos h1, List.getElem?_append_left (by rw [List.length_take]; omega), List.getElem?_take_of_lt h1]
  · rw [if_neg h1, List.getElem?_append_right (by rw [List.length_take]; omega), List.length_take, Nat.min_eq_left hj]
    by_cases h2 : o = j
    · subst h2; simp
    · rw [if_neg h2]
      obtain ⟨k, hk⟩ : ∃ k, o = j + (k + 1) := ⟨o - j - 1, by omega⟩
      subst hk
      rw [show j + (k + 1) - j = k + 1 by omega, List.getElem?_cons_succ, show j + (k + 1) - 1 = j + k by omega]
      by_cases h3 : j + k < S.length
      · rw [List.getElem?_append_left (by rw [List.length_drop]; omega), List.getElem?_append_left h3, List.getElem?_drop]
      · rw [List.getElem?_append_right (by rw [List.length_drop]; omega), List.getElem?_append_right (by omega), List.length_drop]
        congr 1; omega
set_option maxRecDepth 100000 in
theorem layL_len {α : Type} {S rest : List α} {x : α} {j : Nat} (hj : j ≤ S.length) : (layL S x rest j).length = S.length + 1 + rest.length := by
  unfold layL
  rw [List.length_append, List.length_take, List.length_cons, List.length_append, List.length_drop]; omega
set_option maxRecDepth 100000 in
theorem layL_end {α : Type} (S : List α) (x : α) (rest : List α) : layL S x rest S.length = S ++ x :: rest := by
  unfold layL; rw [List.take_length, List.drop_length]; rfl
/-- What stands in memory. -/
def memF {α : Type} (val : α → Value) (zs : List α) (o : Nat) : Value := ((zs[o]?).map val).getD undef
set_option maxRecDepth 100000 in
theorem memF_at {α : Type} {val : α → Value} {zs : List α} {o : Nat} {x : α} (h : zs[o]? = some x) : memF val zs o = val x := by simp [memF, h]

set_option maxRecDepth 100000 in
theorem lay_swap {α : Type} {val : α → Value} {S R : List α} {x y : α} {m : Nat} (hy : S[m]? = some y) (hm : m + 1 ≤ S.length) (o : Nat) :
    (if o = m then val x else if o = m + 1 then val y else memF val (layL S x R (m + 1)) o) = memF val (layL S x R m) o := by
  by_cases h1 : o = m
  · subst h1
    rw [if_pos rfl, memF_at (x := x) (by rw [layL_at (by omega), if_neg (by omega), if_pos rfl])]
  · rw [if_neg h1]
    by_cases h2 : o = m + 1
    · subst h2
      rw [if_pos rfl, memF_at (x := y)]
      rw [layL_at (by omega), if_neg (by omega), if_neg (by omega), show m + 1 - 1 = m by omega, List.getElem?_append_left (by omega)]
      exact hy
    · rw [if_neg h2]
      unfold memF
      rw [layL_at hm, layL_at (by omega)]
      by_cases h3 : o < m
      · rw [if_pos (by omega), if_pos h3]
      · rw [if_neg (by omega), if_neg h2, if_neg h3, if_neg h1]

set_option maxRecDepth 100000 in
theorem Low.set {H : Nat} (w : World) {p : Addr} (hp : H ≤ p.block) (v : Value) : Low H w (w.setCell p v) :=
  ⟨by simp [World.setCell], fun k hk _ => Below.heap_setCell w _ v k (by rintro rfl; omega)⟩

set_option maxRecDepth 100000 in
set_option maxHeartbeats 8000000 in
theorem ins_impl (K : Nat) (fst cap : Array Value) (key : Int → Int) (d : Int → Int → Int) (w : World) (g n c : Nat) (ys : List Int) (hn : ys.length = n) (hn2 : n ≤ 1000) (hB : BlkF w g n (memF (Value.int .i64) ys)) (hK : Enters Tryz.prog K)
    (hd : ∀ x y, d x y < 0 ↔ key y < key x)
    (hf : ∀ (x y : Int) (w' : World), x ∈ ys → y ∈ ys → Only g w w' → Calls Tryz.prog K (fst ++ (#[.int .i64 x, .int .i64 y] ++ cap)) w' fun e w'' => e = .returned (.int .i64 (d x y)) ∧ Ext w' w'') :
    Calls Tryz.prog 190 #[.slice (some ⟨g, 0, none⟩) n c, .int .i64 0, .int .i64 n, .func (.func K) fst cap] w fun e w' => e = .returned (.tuple #[]) ∧ BlkF w' g n (memF (Value.int .i64) (sortD key ys)) ∧ Only g w w' := by
  unfold Enters at hK
  have HF := hide hf
  have HD := hide hd
  have HN := hide hn
  clear hf hd hn
  go_enter Tryz.func190, Tryz.ntmps190
  go_wp2_with fail
  go_loopw [8, 9] (fun i _ wr => ∃ k : Nat, 1 ≤ k ∧ (k ≤ n ∨ k = 1) ∧ i = .int .i64 k ∧ BlkF wr g n (memF (Value.int .i64) (sortD key (ys.take k) ++ ys.drop k)) ∧ Only g w wr) (fun i _ _ => n - (intOf i).toNat)
  case atStart =>
    refine ⟨1, Nat.le_refl _, .inr rfl, rfl, ?_, Only.refl _ _⟩
    have : sortD key (ys.take 1) ++ ys.drop 1 = ys := by
      cases ys with
      | nil => rfl
      | cons y ys => simp [sortD, insD]
    rw [this]; exact hB
  case round =>
    clear hB
    obtain ⟨i, hi1, hi, rfl, hB, hw⟩ := hrel
    by_cases hit : i < n
    · obtain ⟨x, hx⟩ := at_of_lt (xs := ys) (k := i) (by have := HN.out; omega)
      have hxm := List.mem_of_getElem? hx
      obtain ⟨S, hS⟩ : ∃ S, S = sortD key (ys.take i) := ⟨_, rfl⟩
      obtain ⟨R, hR⟩ : ∃ R, R = ys.drop (i + 1) := ⟨_, rfl⟩
      have hSl : S.length = i := by rw [hS, sortD_len, List.length_take]; have := HN.out; omega
      have hRl : R.length = n - (i + 1) := by rw [hR, List.length_drop, HN.out]
      have hSm : ∀ y ∈ S, y ∈ ys := fun y hy => List.mem_of_mem_take (sortD_mem.1 (by rw [hS] at hy; exact hy))
      have hSd : DescK key S := by rw [hS]; exact sortD_desc _ _
      have h0 : sortD key (ys.take i) ++ ys.drop i = layL S x R i := by
        rw [← hSl, layL_end, hS, hR, sortD_len, List.length_take, Nat.min_eq_left (by have := HN.out; omega), List.drop_eq_getElem_cons (by have := HN.out; omega)]
        rw [List.getElem?_eq_getElem (by have := HN.out; omega)] at hx
        injection hx with hx
        rw [hx]
      have h1 : ∀ j, insD key S x = S.take j ++ x :: S.drop j → sortD key (ys.take (i + 1)) ++ ys.drop (i + 1) = layL S x R j := fun j hj => by
        rw [sortD_at hx, ← hS, hj, ← hR]; simp [layL]
      rw [h0] at hB
      have H1 := hide h1
      have HSL := hide hSl
      have HRL := hide hRl
      have HSM := hide hSm
      have HSD := hide hSd
      clear hx hS hR h0 h1 hSl hRl hSm hSd
      go_wp2_with fail
      obtain ⟨wo, hwo⟩ : ∃ wo : World, wo = wr := ⟨_, rfl⟩
      subst hwo
      go_loopw [9] (fun jj wr => ∃ j : Nat, j ≤ i ∧ jj = .int .i64 j ∧ BlkF wr g n (memF (Value.int .i64) (layL S x R j)) ∧ Hid (∀ y ∈ S.drop j, key y < key x) ∧ Only g w wr) (fun jj _ => (intOf jj).toNat)
      case atStart => exact ⟨i, Nat.le_refl _, rfl, hB, (fun y hy => by rw [List.drop_of_length_le (by rw [HSL.out]; exact Nat.le_refl _)] at hy; simp at hy), hw⟩
      case round =>
        clear hB hw
        obtain ⟨j, hj, rfl, hB, hlow, hw⟩ := hrel
        by_cases hj0 : j = 0
        · subst hj0
          have H2 := hide (H1.out 0 (insD_stop HSD.out (.inl rfl) hlow.out))
          go_wp2
          refine wp_region_X (by kernel_rfl) (by kernel_rfl) ?_
          repeat' (refine wpX_stepQ (fun K hK => ?_)
                   go_simp
                   try (rw [if_neg (by intro h; simp [undef] at h)])
                   try split
                   all_goals
                     first
                     | (refine hK _ ?_
                        clear hK K)
                     | (apply Exists.intro
                        refine ⟨fun wq hwq => ?_, hK _ ?_⟩
                        · have hcq := hwq.cellS
                          go_simp
                          first
                          | exact ⟨Ext.refl _, rfl⟩
                        clear hK K))
          refine wpX_nil (fun wz hwz => ?_)
          go_wp2
          exact ⟨⟨i + 1, by omega, by omega, by go_num, by rw [H2.out]; exact hB.ext hwz, hw.trans (Only.of_ext hwz)⟩, by simp [intOf]; omega⟩
        · obtain ⟨m, hm⟩ : ∃ m : Nat, j = m + 1 := ⟨j - 1, by omega⟩
          subst hm
          have hSn := HSL.out
          obtain ⟨y, hy⟩ := at_of_lt (xs := S) (k := m) (by omega)
          have hym := HSM.out y (List.mem_of_getElem? hy)
          have a1 : (layL S x R (m + 1))[m + 1]? = some x := by rw [layL_at (by omega), if_neg (by omega), if_pos rfl]
          have a2 : (layL S x R (m + 1))[m]? = some y := by rw [layL_at (by omega), if_pos (by omega)]; exact hy
          have d0 := hB.cell (m + 1) (by omega)
          have d1 := hB.cell m (by omega)
          rw [memF_at a1] at d0
          rw [memF_at a2] at d1
          have z0 := hB.fr (m + 1)
          have z1 := hB.fr m
          have HC : Hid (∀ w', Ext wr w' → Calls Tryz.prog K (fst ++ (#[.int .i64 x, .int .i64 y] ++ cap)) w' fun e w'' => e = .returned (.int .i64 (d x y)) ∧ Ext w' w'') := fun w' hw' => HF.out x y w' hxm hym (hw.trans (Only.of_ext hw'))
          have y1 : wrap64 ((m : Int) + 1 - 1) = m := by rw [IntWalk.wrap64_in _ (by omega)]; omega
          have y2 : IntKind.i64.wrap ((m : Int) + 1 - 1) = m := by rw [IntWalk.i64_left]; exact y1
          have y3 : wrap64 (m : Int) = m := IntWalk.wrap64_in _ (by omega)
          have y4 : IntKind.i64.wrap (m : Int) = m := IntWalk.i64_in _ (by omega)
          have i1 : (m : Int) + 1 < (n : Int) := by omega
          have i2 : (0 : Int) ≤ (m : Int) + 1 := by omega
          have i3 : ((m : Int) + 1).toNat = m + 1 := by omega
          have i4 : m < n := by omega
          have i5 : m + 1 < n := by omega
          have HB := hide hB
          have HY := hide hy
          have A1 := hide a1
          have A2 := hide a2
          clear hB a1 a2 hy hSn
          by_cases hlt : key y < key x
          · have t1 : d x y < 0 := (HD.out x y).2 hlt
            go_wp2
            refine wp_region_X (by kernel_rfl) (by kernel_rfl) ?_
            repeat' (refine wpX_stepQ (fun K hK => ?_)
                     go_simp
                     try (rw [if_neg (by intro h; simp [undef] at h)])
                     try split
                     all_goals
                       first
                       | (refine hK _ ?_
                          clear hK K)
                       | (apply Exists.intro
                          refine ⟨fun wq hwq => ?_, hK _ ?_⟩
                          · have hcq := hwq.cellS
                            go_simp
                            first
                            | exact ⟨Ext.refl _, rfl⟩
                            | exact ⟨Ext.refl _, HC.out _ (by repeat (first | exact Ext.refl _ | assumption | refine Ext.alloc ?_ _ | refine Ext.drew ?_ | refine Ext.trans ?_ (by assumption)))⟩
                          clear hK K))
            refine wpX_nil (fun wz hwz => ?_)
            go_wp2
            have hBz := HB.out.ext hwz
            have hOz : Only g w wz := hw.trans (Only.of_ext hwz)
            have b0 := hBz.cell (m + 1) i5
            have b1 := hBz.cell m i4
            have g0 := hBz.fr (m + 1)
            have g1 := hBz.fr m
            have HZ := hide hBz
            rw [memF_at (A1.out)] at b0
            rw [memF_at (A2.out)] at b1
            obtain ⟨wp, hwp⟩ : ∃ wp : World, wp = wz := ⟨_, rfl⟩
            subst hwp
            clear hwz d0 d1 z0 z1 HC HB hBz hw
            refine wp_region_L (H := g) (late := [4]) (by kernel_rfl) (by kernel_rfl) ?_
            repeat' (refine wpL_stepQ rfl (fun K hK => ?_)
                     go_simp
                     try (rw [if_neg (by intro h; simp [undef] at h)])
                     try split
                     all_goals
                       first
                       | (refine hK _ ?_
                          clear hK K)
                       | (apply Exists.intro
                          refine ⟨fun wq hwq => ?_, hK _ ?_⟩
                          · have hcq := hwq.cellS
                            go_simp
                            first
                            | exact ⟨Ext.refl _, rfl⟩
                          clear hK K))
            refine wpL_stepQL (.int .i64 (m : Int)) rfl (fun wq hwq => ?_) (fun K hK0 => ?_)
            · go_simp
              exact ⟨Ext.refl _, rfl⟩
            refine hK0 _ ?_
            clear hK0 K
            repeat' (refine wpL_stepQ rfl (fun K hK => ?_)
                     go_simp
                     try (rw [if_neg (by intro h; simp [undef] at h)])
                     try split
                     all_goals
                       first
                       | (refine hK _ ?_
                          clear hK K)
                       | (apply Exists.intro
                          refine ⟨fun wq hwq => ?_, hK _ ?_⟩
                          · have hcq := hwq.cellS
                            go_simp
                            first
                            | exact ⟨Ext.refl _, rfl⟩
                          clear hK K))
            refine wpL_stepC rfl (by kernel_rfl) (fun K hK' wa hwa => ?_)
            have hca := hwa.cellS
            have hfa := hwa.frozenS
            go_simp
            refine ⟨Low.set (H := g) _ (p := ⟨g, m + 1, none⟩) (Nat.le_refl g) _, hK' _ _ ?_⟩
            clear hK' K hca hfa
            have hB1 := (HZ.out.ext hwa).set (m + 1) i5 (.int .i64 y)
            have hO1 : Only g w (wa.setCell ⟨g, m + 1, none⟩ (.int .i64 y)) := (hOz.trans (Only.of_ext hwa)).setCell _ _
            generalize wa.setCell ⟨g, m + 1, none⟩ (.int .i64 y) = w5 at hB1 hO1 ⊢
            have b2 := hB1.cell m i4
            rw [if_neg (by omega), memF_at A2.out] at b2
            have g2 := hB1.fr m
            have HB1 := hide hB1
            clear hB1 HZ b0 b1 g0 g1 hOz
            repeat' (refine wpL_stepQ rfl (fun K hK => ?_)
                     go_simp
                     try (rw [if_neg (by intro h; simp [undef] at h)])
                     try split
                     all_goals
                       first
                       | (refine hK _ ?_
                          clear hK K)
                       | (apply Exists.intro
                          refine ⟨fun wq hwq => ?_, hK _ ?_⟩
                          · have hcq := hwq.cellS
                            go_simp
                            first
                            | exact ⟨Ext.refl _, rfl⟩
                          clear hK K))
            refine wpL_stepL rfl (by kernel_rfl) (by kernel_rfl) (by kernel_rfl) (fun K hK wz hwz => ?_)
            have hcz := hwz.cellS
            have hfz := hwz.frozenS
            go_simp
            refine hK _ _ ?_
            clear hK K
            go_wp2
            refine ⟨⟨m, by omega, by go_num, ((HB1.out.ext hwz).set m i4 (.int .i64 x)).congr (fun o _ => lay_swap (val := Value.int .i64) HY.out (by have := HSL.out; omega) o), fun z hz => ?_, (hO1.trans (Only.of_ext hwz)).setCell _ _⟩, by simp [intOf]⟩
            rw [List.drop_eq_getElem_cons (lt_of_at HY.out)] at hz
            rcases List.mem_cons.1 hz with hz | hz
            · have hy := HY.out
              rw [List.getElem?_eq_getElem (lt_of_at hy)] at hy
              injection hy with hy
              rw [hz, hy]; exact hlt
            · exact hlow.out z hz
          · have t1 : ¬ d x y < 0 := fun h => hlt ((HD.out x y).1 h)
            have H2 := hide (H1.out (m + 1) (insD_stop HSD.out (.inr ⟨y, HY.out, by omega⟩) hlow.out))
            go_wp2
            refine wp_region_X (by kernel_rfl) (by kernel_rfl) ?_
            repeat' (refine wpX_stepQ (fun K hK => ?_)
                     go_simp
                     try (rw [if_neg (by intro h; simp [undef] at h)])
                     try split
                     all_goals
                       first
                       | (refine hK _ ?_
                          clear hK K)
                       | (apply Exists.intro
                          refine ⟨fun wq hwq => ?_, hK _ ?_⟩
                          · have hcq := hwq.cellS
                            go_simp
                            first
                            | exact ⟨Ext.refl _, rfl⟩
                            | exact ⟨Ext.refl _, HC.out _ (by repeat (first | exact Ext.refl _ | assumption | refine Ext.alloc ?_ _ | refine Ext.drew ?_ | refine Ext.trans ?_ (by assumption)))⟩
                          clear hK K))
            refine wpX_nil (fun wz hwz => ?_)
            go_wp2
            exact ⟨⟨i + 1, by omega, by omega, by go_num, by rw [H2.out]; exact HB.out.ext hwz, hw.trans (Only.of_ext hwz)⟩, by simp [intOf]; omega⟩
    · have hin : i = n ∨ (i = 1 ∧ n = 0) := by omega
      go_wp2
      go_end0
      rw [List.take_of_length_le (by have := HN.out; omega), List.drop_of_length_le (by have := HN.out; omega), List.append_nil] at hB
      exact ⟨rfl, hB, hw⟩

set_option maxRecDepth 100000 in
set_option maxHeartbeats 4000000 in
theorem stab_impl (K : Nat) (fst cap : Array Value) (key : Int → Int) (d : Int → Int → Int) (w : World) (g n c : Nat) (ys : List Int) (hn : ys.length = n) (hn2 : n ≤ 19) (hB : BlkF w g n (memF (Value.int .i64) ys)) (hK : Enters Tryz.prog K)
    (hd : ∀ x y, d x y < 0 ↔ key y < key x)
    (hf : ∀ (x y : Int) (w' : World), x ∈ ys → y ∈ ys → Only g w w' → Calls Tryz.prog K (fst ++ (#[.int .i64 x, .int .i64 y] ++ cap)) w' fun e w'' => e = .returned (.int .i64 (d x y)) ∧ Ext w' w'') :
    Calls Tryz.prog 143 #[.slice (some ⟨g, 0, none⟩) n c, .func (.func K) fst cap] w fun e w' => e = .returned (.tuple #[]) ∧ BlkF w' g n (memF (Value.int .i64) (sortD key ys)) ∧ Only g w w' := by
  have HI := hide (ins_impl K fst cap key d w g n c ys hn (by omega) hB hK hd hf)
  have i1 : ¬ (20 : Int) ≤ (n : Int) := by omega
  have i2 : ¬ (20 : Int) < (n : Int) := by omega
  clear hd hf hB hn
  have HS : Hid (Calls Tryz.prog 169 #[.slice (some ⟨g, 0, none⟩) n c, .int .i64 n, .func (.func K) fst cap] w fun e w' => e = .returned (.tuple #[]) ∧ BlkF w' g n (memF (Value.int .i64) (sortD key ys)) ∧ Only g w w') := by
    go_enter Tryz.func169, Tryz.ntmps169
    go_wp2_with fail
    go_loopw [7, 8] (fun a b wr => a = .int .i64 0 ∧ b = .int .i64 20 ∧ wr = w) (fun _ _ _ => 0)
    case atStart => exact ⟨rfl, rfl, rfl⟩
    case round =>
      obtain ⟨rfl, rfl, rfl⟩ := hrel
      go_wp2_with fail
      refine HI.out.mono ?_
      rintro e w1 ⟨rfl, hB1, hO1⟩
      obtain ⟨wb, hwb⟩ : ∃ wb : World, wb = wr := ⟨_, rfl⟩
      subst hwb
      go_wp2_with fail
      go_loopw [6, 7, 8, 9] (fun s _ _ _ wq => s = .int .i64 20 ∧ wq = w1) (fun _ _ _ _ _ => 0)
      case atStart => exact ⟨rfl, rfl⟩
      case round =>
        obtain ⟨rfl, rfl⟩ := hrel
        go_wp2
        go_end0
        exact ⟨rfl, hB1, hO1⟩
  go_enter Tryz.func143, Tryz.ntmps143
  go_wp2_with fail
  refine HS.out.mono ?_
  rintro e w1 ⟨rfl, hB1, hO1⟩
  go_wp2
  go_end0
  exact ⟨rfl, hB1, hO1⟩

end Go.Proofs.YtilcdnkkabmbfaaGreat
