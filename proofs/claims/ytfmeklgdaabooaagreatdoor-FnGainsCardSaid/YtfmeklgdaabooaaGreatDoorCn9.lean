/- A drawn region in which some loads may come behind an operation that writes: they read block H, and it does not write there. Condorcet winner and loser, the unbeaten: both sides. Drawn regions in an order of one's own, with a writing operation in the middle. A profile in which each ranking is changed, of the program. -/
import Derived.Test.YtfmeklgdaabooaaGreatDoorCn0
import Derived.Test.YtfmeklgdaabooaaGreatDoorCn5
import Derived.Test.YtfmeklgdaabooaaGreatDoorCn8
namespace Go.Proofs.YtfmeklgdaabooaaGreatDoor
open Go.RowKit

/-- Block H is as it was. -/
structure Sam (H : Nat) (w w' : World) : Prop where
  size : w.heap.size ≤ w'.heap.size
  block : H < w.heap.size → w'.heap[H]? = w.heap[H]?
set_option maxRecDepth 100000 in
theorem Sam.refl (H : Nat) (w : World) : Sam H w w := ⟨Nat.le_refl _, fun _ => rfl⟩
set_option maxRecDepth 100000 in
theorem Sam.trans {H : Nat} {a b c : World} (h : Sam H a b) (k : Sam H b c) : Sam H a c := ⟨Nat.le_trans h.size k.size, fun hl => (k.block (Nat.lt_of_lt_of_le hl h.size)).trans (h.block hl)⟩
set_option maxRecDepth 100000 in
theorem Sam.of_ext {H : Nat} {w w' : World} (h : Ext w w') : Sam H w w' := ⟨h.size, fun hl => Below.block h H hl⟩
set_option maxRecDepth 100000 in
theorem Sam.grown {H : Nat} {w w' : World} {row : Option Nat} (h : w.grownBy w' row) (hr : row ≠ some H) : Sam H w w' := ⟨h.size, fun hl => h.block H hl (fun e => hr e.symm)⟩
set_option maxRecDepth 100000 in
theorem Sam.keep {H : Nat} {w w' : World} (h : Sam H w w') {p : Addr} {v : Value} (hp : p.block = H) (hc : w.cell? p = some v) : w'.cell? p = some v := by
  subst hp
  exact (World.cell?_of_block (w := w) (h.block (World.block_lt_of_cell? w p hc))).trans hc

section
variable {P : Program} {ops : Array Oper} {md : Region.Mode} {H : Nat} {late : List Nat}

def QK (P : Program) (H : Nat) (W : World) (o : Oper) (a : Act) (v : Value) : Prop := ∀ w, Sam H W w → qxUpon P w v ((execOp a.eval o).run P w)
def YK (P : Program) (ops : Array Oper) (H : Nat) (W : World) (o : Oper) (v : Value) (a : Act) : Prop :=
  (Region.wanted o (yielded ops a.tmps) = true ∧ QK P H W o a v) ∨ (Region.wanted o (yielded ops a.tmps) = false ∧ v = undef)
set_option maxRecDepth 100000 in
theorem YK.yx {W : World} {o : Oper} {v : Value} {a : Act} (h : YK P ops H W o v a) : YX P ops W o v a := h.imp (fun ⟨h1, h2⟩ => ⟨h1, fun w hw => h2 w (Sam.of_ext hw)⟩) id
set_option maxRecDepth 100000 in
theorem YK.low {W W' : World} {o : Oper} {v : Value} {a : Act} (h : YK P ops H W o v a) (hW : Sam H W W') : YK P ops H W' o v a :=
  h.imp (fun ⟨h1, h2⟩ => ⟨h1, fun w hw => h2 w (hW.trans hw)⟩) id
set_option maxRecDepth 100000 in
theorem YK.of_same {W : World} {o : Oper} {v : Value} {a a' : Act} (hy : YK P ops H W o v a) (he : execOp a'.eval o = execOp a.eval o)
    (hw : Region.wanted o (yielded ops a'.tmps) = Region.wanted o (yielded ops a.tmps)) : YK P ops H W o v a' := by
  unfold YK QK at *
  rw [he, hw]
  exact hy
def Y3 (P : Program) (ops : Array Oper) (H : Nat) (lt : Bool) (W : World) (o : Oper) (v : Value) (a : Act) : Prop := YX P ops W o v a ∧ (lt = true → YK P ops H W o v a)
set_option maxRecDepth 100000 in
theorem Y3.of_same {lt : Bool} {W : World} {o : Oper} {v : Value} {a a' : Act} (hy : Y3 P ops H lt W o v a) (he : execOp a'.eval o = execOp a.eval o)
    (hw : Region.wanted o (yielded ops a'.tmps) = Region.wanted o (yielded ops a.tmps)) : Y3 P ops H lt W o v a' := ⟨hy.1.of_same he hw, fun h => (hy.2 h).of_same he hw⟩
set_option maxRecDepth 100000 in
theorem Y3.ext {lt : Bool} {W W' : World} {o : Oper} {v : Value} {a : Act} (hy : Y3 P ops H lt W o v a) (hW : Ext W W') : Y3 P ops H lt W' o v a := ⟨hy.1.mono hW, fun h => (hy.2 h).low (Sam.of_ext hW)⟩
set_option maxRecDepth 100000 in
theorem Y3.mono {lt : Bool} {W W' : World} {o : Oper} {v : Value} {a : Act} (hy : Y3 P ops H lt W o v a) (hW : Ext W W') : Y3 P ops H lt W' o v a := hy.ext hW

/-- Operation j stands before or behind every other one (plain moves and the late ones aside). -/
def cutKB (md : Region.Mode) (ops : Array Oper) (late : List Nat) (j : Nat) : Bool :=
  (List.range ops.size).all fun i => i == j || moveB ops i || late.contains i || if i < j then ancB md ops ops.size j i else ancB md ops ops.size i j
set_option maxRecDepth 100000 in
theorem cutK_no {listed : Array Bool} (hc : Closed md ops listed) {i j : Nat} (h : cutKB md ops late j = true) (hi : i ∈ Region.ready md ops listed) (hj : j ∈ Region.ready md ops listed) (hne : i ≠ j) : moveB ops i = true ∨ late.contains i = true := by
  have two : ∀ {i : Nat} {listed : Array Bool}, listed.getD i true = false → listed.getD i false = true → False := fun {i listed} h1 h2 => by
    rcases Nat.lt_or_ge i listed.size with h' | h'
    · simp [h'] at h1 h2; rw [h1] at h2; cases h2
    · simp [Array.getElem?_eq_none h'] at h2
  obtain ⟨hi0, oi, hoi, hia⟩ := mem_ready.1 hi
  obtain ⟨hj0, oj, hoj, hja⟩ := mem_ready.1 hj
  simp only [cutKB, List.all_eq_true, List.mem_range] at h
  have h1 := h i (Array.getElem?_eq_some_iff.1 hoi).1
  rw [Bool.or_eq_true, Bool.or_eq_true, Bool.or_eq_true] at h1
  rcases h1 with ((h1 | h1) | h1) | h1
  · exact absurd (by simpa using h1) hne
  · exact .inl h1
  · exact .inr h1
  split at h1
  · exact (two hi0 (anc_listed hc _ j oj hoj hja h1)).elim
  · exact (two hj0 (anc_listed hc _ i oi hoi hia h1)).elim

/-- Whatever order is picked from here on, from every world that grew out of W. -/
def wpAnyK (P : Program) (md : Region.Mode) (ops : Array Oper) (H : Nat) (late : List Nat) (Q : Act → World → Prop) : Nat → Array Bool → World → Act → Prop
  | 0, listed, W, a => Region.ready md ops listed = [] ∧ ∀ w, Ext W w → Q a w
  | fuel + 1, listed, W, a =>
    (Region.ready md ops listed = [] → ∀ w, Ext W w → Q a w) ∧
    ∀ i ∈ Region.ready md ops listed, ∀ w, Ext W w → wpOp P ops NoExit i (fun a' w' => (Ext w w' ∧ wpAnyK P md ops H late Q fuel (listed.setIfInBounds i true) w' a') ∨
      (lastB md ops i = true ∧ Region.ready md ops (listed.setIfInBounds i true) = [] ∧ Q a' w') ∨ (cutKB md ops late i = true ∧ Sam H w w' ∧ wpAnyK P md ops H late Q fuel (listed.setIfInBounds i true) w' a')) a w

set_option maxRecDepth 100000 in
theorem wpAnyK.mono {Q : Act → World → Prop} : ∀ (fuel : Nat) (listed : Array Bool) {W W' : World} {a : Act}, wpAnyK P md ops H late Q fuel listed W a → Ext W W' → wpAnyK P md ops H late Q fuel listed W' a
  | 0, _, _, _, _, h, hW => ⟨h.1, fun w hw => h.2 w (hW.trans hw)⟩
  | _ + 1, _, _, _, _, h, hW => ⟨fun h0 w hw => h.1 h0 w (hW.trans hw), fun i hi w hw => h.2 i hi w (hW.trans hw)⟩

set_option maxRecDepth 100000 in
theorem wpAny_of_K {Q : Act → World → Prop} {Q' : Exit → Act → World → Prop} (hQ : ∀ a w, Q a w → Q' .normal a w) : ∀ (fuel : Nat) (listed : Array Bool) (W : World) (a : Act),
    wpAnyK P md ops H late Q fuel listed W a → wpAny P md ops Q' fuel listed a W
  | 0, _, W, _, h => ⟨h.1, hQ _ _ (h.2 W (Ext.refl _))⟩
  | fuel + 1, listed, W, a, h => ⟨fun h0 => hQ _ _ (h.1 h0 W (Ext.refl _)), fun i hi => by
      have h1 := h.2 i hi W (Ext.refl _)
      have fin : ∀ {a' : Act} {w w' : World}, ((Ext w w' ∧ wpAnyK P md ops H late Q fuel (listed.setIfInBounds i true) w' a') ∨ (lastB md ops i = true ∧ Region.ready md ops (listed.setIfInBounds i true) = [] ∧ Q a' w') ∨ (cutKB md ops late i = true ∧ Sam H w w' ∧ wpAnyK P md ops H late Q fuel (listed.setIfInBounds i true) w' a')) →
          wpAny P md ops Q' fuel (listed.setIfInBounds i true) a' w' := fun hh => hh.elim (fun h2 => wpAny_of_K hQ fuel _ _ _ h2.2) (fun h2 => h2.elim (fun h2 => wpAny_end h2.2.1 (hQ _ _ h2.2.2)) (fun h2 => wpAny_of_K hQ fuel _ _ _ h2.2.2))
      unfold wpOp at *
      split
      · rename_i ho; simp only [ho] at h1; exact fin h1
      · rename_i o ho
        simp only [ho] at h1
        split
        · rename_i hw
          simp only [hw, if_true] at h1
          rcases h1 with h1 | ⟨_, h1⟩
          · refine .inl ?_
            unfold Oper.wp at *
            generalize (execOp a.eval o).run P W = r at *
            cases r with
            | ok n w' =>
              cases n <;> simp only [Oper.upon] at h1 ⊢
              case value u => exact fin h1
              case skip => exact fin h1
              case defer d => exact fin h1
              case enter f args =>
                refine Calls.mono h1 fun e w'' he => ?_
                cases e with
                | returned u => exact fin he
                | panicked c => exact he.elim
                | outgrown => exact (noLets he).elim
              case row row args => exact Rows.mono h1 fun u w'' he => fin he
            | halt x w' => cases x <;> simp only [Oper.upon] at h1 ⊢ <;> exact h1.elim
          · exact (noLets h1).elim
        · rename_i hw
          simp only [hw] at h1
          exact fin h1⟩

set_option maxRecDepth 100000 in
theorem wpOp_putYK {j : Nat} {oi oj : Oper} {v : Value} (Y : Act → Prop) (hsame : ∀ a a' : Act, Y a → execOp a'.eval oi = execOp a.eval oi → Region.wanted oi (yielded ops a'.tmps) = Region.wanted oi (yielded ops a.tmps) → Y a') (hj : ops[j]? = some oj) (hap : oi.apart ops oj = true)
    (hsi : ∀ cs b, oi.op ≠ .select cs b) (hsj : ∀ cs b, oj.op ≠ .select cs b) {K : Act → World → Prop} {a : Act} {w : World}
    (hy : Y a) (h : wpOp P ops NoExit j K (a.put oi.dst v) w) :
    wpOp P ops NoExit j (fun a' w' => Y a' ∧ K (a'.put oi.dst v) w') a w := by
  obtain ⟨h1, h2, h3⟩ := Oper.apart_spec hap
  have keep : ∀ (a : Act), Y a → ∀ u, Y (a.put oj.dst u) := fun a hy u =>
    hsame _ _ hy (execOp_put oi hsi a oj.dst u h3) (wanted_put oi a oj.dst u h3)
  have keepD : ∀ d, Y { a with defers := d :: a.defers } := fun d => hsame _ _ hy rfl rfl
  unfold wpOp at *
  simp only [hj] at *
  rw [wanted_put oj a oi.dst v h1] at h
  split
  · rename_i hw
    simp only [hw, if_true] at h
    rcases h with h | ⟨_, hlets⟩
    case inr => exact (noLets hlets).elim
    refine .inl ?_
    unfold Oper.wp at *
    rw [execOp_put oj hsj a oi.dst v h1] at h
    generalize (execOp a.eval oj).run P w = r at *
    cases r with
    | ok n w' =>
      cases n <;> simp only [Oper.upon] at h ⊢
      case value u => exact ⟨keep a hy u, by rw [← Act.put_comm a v u h2]; exact h⟩
      case skip => exact ⟨keep a hy _, by rw [← Act.put_comm a v undef h2]; exact h⟩
      case defer d =>
        refine ⟨keep _ (keepD d) _, ?_⟩
        rw [← Act.put_comm _ v undef h2, ← Act.put_defers]
        exact h
      case enter f args =>
        refine Calls.mono h fun e w'' he => ?_
        cases e with
        | returned u => exact ⟨keep a hy u, by rw [← Act.put_comm a v u h2]; exact he⟩
        | panicked c => exact he
        | outgrown => exact he
      case row row args => exact Rows.mono h fun u w'' he => ⟨keep a hy u, by rw [← Act.put_comm a v u h2]; exact he⟩
    | halt x w' =>
      cases x <;> simp only [Oper.upon] at h ⊢ <;> exact h
  · rename_i hw
    simp only [hw] at h
    exact ⟨keep a hy _, by rw [← Act.put_comm a v undef h2]; exact h⟩

set_option maxRecDepth 100000 in
theorem wpAnyK_first {Q : Act → World → Prop} {i : Nat} {oi : Oper} {v : Value} (hi : ops[i]? = some oi) (hsel : ∀ (j : Nat) (o : Oper) cs b, ops[j]? = some o → o.op ≠ .select cs b) :
    ∀ (fuel : Nat) (listed : Array Bool) (W : World) (a : Act),
      (∀ j oj, ops[j]? = some oj → j ≠ i → listed.getD j true = false → (∀ e ∈ oj.after, Region.binds md e = true → e.on ≠ i) → oi.apart ops oj = true) →
      Closed md ops listed → i ∈ Region.ready md ops listed → Y3 P ops H (late.contains i) W oi v a →
      wpAnyK P md ops H late Q fuel (listed.setIfInBounds i true) W (a.put oi.dst v) → wpAnyK P md ops H late Q (fuel + 1) listed W a := by
  intro fuel
  induction fuel with
  | zero =>
    intro listed W a _ _ hr hy HH
    refine ⟨fun h => (by rw [h] at hr; cases hr), fun j hj w hw => ?_⟩
    by_cases hji : j = i
    · subst hji; exact hy.1.wpOp hi hw fun w' hw' => .inl ⟨hw', HH.mono _ _ (hw.trans hw')⟩
    · have := ready_mono hj hji
      rw [HH.1] at this
      cases this
  | succ fuel ih =>
    intro listed W a hfree hcl hr hy HH
    refine ⟨fun h => (by rw [h] at hr; cases hr), fun j hj w hw => ?_⟩
    by_cases hji : j = i
    · subst hji; exact hy.1.wpOp hi hw fun w' hw' => .inl ⟨hw', HH.mono _ _ (hw.trans hw')⟩
    · have h1 := HH.2 j (ready_mono hj hji) w hw
      obtain ⟨hjun, oj, hoj, hall⟩ := mem_ready.1 hj
      have hnot : ∀ e ∈ oj.after, Region.binds md e = true → e.on ≠ i := fun e he hb heq => by
        have h1 := hall e he hb
        have h0 := (mem_ready.1 hr).1
        rw [heq] at h1
        rcases Nat.lt_or_ge i listed.size with h' | h'
        · simp [h'] at h0 h1; rw [h0] at h1; cases h1
        · simp [Array.getElem?_eq_none h'] at h1
      have h2 := wpOp_putYK (Y3 P ops H (late.contains i) W oi v) (fun _ _ hy he hw => hy.of_same he hw) hoj (hfree j oj hoj hji hjun hnot) (fun cs b => hsel i oi cs b hi) (fun cs b => hsel j oj cs b hoj) hy h1
      have hfree' : ∀ k ok, ops[k]? = some ok → k ≠ i → (listed.setIfInBounds j true).getD k true = false →
          (∀ e ∈ ok.after, Region.binds md e = true → e.on ≠ i) → oi.apart ops ok = true := fun k ok hk hki hun hno => by
        refine hfree k ok hk hki ?_ hno
        by_cases hjk : j = k
        · subst hjk; exact hjun
        · rw [getD_set_ne true hjk] at hun; exact hun
      refine wpOp_mono (fun a' w' h3 => ?_) h2
      rcases h3 with ⟨h3, h4 | h4 | h4⟩
      · refine .inl ⟨h4.1, ih (listed.setIfInBounds j true) w' a' hfree' (hcl.set hj) (ready_mono hr (Ne.symm hji)) (h3.mono (hw.trans h4.1)) ?_⟩
        rw [Array.setIfInBounds_comm _ _ hji]
        exact h4.2
      · obtain ⟨e, he, hb, heq⟩ := lastB_spec h4.1 hoj (Array.getElem?_eq_some_iff.1 hi).1 (Ne.symm hji)
        exact absurd heq (hnot e he hb)
      · have hy3 : Y3 P ops H (late.contains i) w' oi v a' := by
          rcases cutK_no hcl h4.1 hr hj (Ne.symm hji) with hm | hl
          · obtain ⟨x, hx⟩ := moveB_spec hm hi
            exact ⟨h3.1.move hx, fun hl => (h3.2 hl).low ((Sam.of_ext hw).trans h4.2.1)⟩
          · have h5 := (h3.2 hl).low ((Sam.of_ext hw).trans h4.2.1)
            exact ⟨h5.yx, fun _ => h5⟩
        refine .inr (.inr ⟨h4.1, h4.2.1, ih (listed.setIfInBounds j true) w' a' hfree' (hcl.set hj) (ready_mono hr (Ne.symm hji)) hy3 ?_⟩)
        rw [Array.setIfInBounds_comm _ _ hji]
        exact h4.2.2

/-- THE WALK IN THE ORDER OF THE TEXT. -/
def wpK (P : Program) (ops : Array Oper) (H : Nat) (late : List Nat) (Q : Act → World → Prop) : List Oper → Nat → World → Act → Prop
  | [], _, W, a => ∀ w, Ext W w → Q a w
  | o :: rest, k, W, a =>
    (∃ v, Y3 P ops H (late.contains k) W o v a ∧ wpK P ops H late Q rest (k + 1) W (a.put o.dst v)) ∨
    (soleB ops k = true ∧ ∀ w, Ext W w → wpOp P ops NoExit k (fun a' w' => Ext w w' ∧ wpK P ops H late Q rest (k + 1) w' a') a w) ∨
    (soleB ops k = true ∧ lastB .any ops k = true ∧ Region.ready .any ops (listedTo ops (k + 1)) = [] ∧ ∀ w, Ext W w → wpOp P ops NoExit k (fun a' w' => Q a' w') a w) ∨
    (soleB ops k = true ∧ cutKB .any ops late k = true ∧ ∀ w, Ext W w → wpOp P ops NoExit k (fun a' w' => Sam H w w' ∧ wpK P ops H late Q rest (k + 1) w' a') a w)

set_option maxRecDepth 100000 in
theorem wpK_lex {Q : Act → World → Prop} (hs : Region.noSelect ops = true) : ∀ (l : List Oper) (k : Nat) (W : World) (a : Act), (∀ j, l[j]? = ops[k + j]?) → Closed .any ops (listedTo ops k) →
    Region.lexFrom .any ops l.length k (listedTo ops k) = true → wpK P ops H late Q l k W a → wpAnyK P .any ops H late Q l.length (listedTo ops k) W a
  | [], _, _, _, _, _, hB, h => ⟨by simpa [Region.lexFrom] using hB, h⟩
  | o :: l, k, W, a, hl, hcl, hB, h => by
    have h0 : ops[k]? = some o := by simpa using (hl 0).symm
    simp only [List.length_cons, Region.lexFrom, Bool.and_eq_true] at hB
    obtain ⟨⟨hr, hf⟩, hB'⟩ := hB
    have hcl' : Closed .any ops (listedTo ops (k + 1)) := hcl.set (by simpa using hr)
    have hl' : ∀ j, l[j]? = ops[k + 1 + j]? := fun j => by have := hl (j + 1); simpa [Nat.add_assoc, Nat.add_comm 1 j] using this
    have sole : soleB ops k = true → Region.ready .any ops (listedTo ops k) = [k] := fun hsole => by simpa [soleB] using hsole
    rcases h with ⟨v, hy, hK⟩ | ⟨hsole, hK⟩ | ⟨hsole, hlast, hend, hK⟩ | ⟨hsole, hcut, hK⟩
    · exact wpAnyK_first h0 (Region.noSelect_spec hs) l.length _ W a (Region.free_spec h0 hf) hcl (by simpa using hr) hy (wpK_lex hs l (k + 1) W _ hl' hcl' hB' hK)
    · have hsole' := sole hsole
      refine ⟨fun h => (by rw [h] at hsole'; cases hsole'), fun i hi w hw => ?_⟩
      have hik : i = k := by rw [hsole'] at hi; simpa using hi
      subst hik
      exact wpOp_mono (fun a' w' h3 => .inl ⟨h3.1, wpK_lex hs l (i + 1) w' a' hl' hcl' hB' h3.2⟩) (hK w hw)
    · have hsole' := sole hsole
      refine ⟨fun h => (by rw [h] at hsole'; cases hsole'), fun i hi w hw => ?_⟩
      have hik : i = k := by rw [hsole'] at hi; simpa using hi
      subst hik
      exact wpOp_mono (fun a' w' h3 => .inr (.inl ⟨hlast, hend, h3⟩)) (hK w hw)
    · have hsole' := sole hsole
      refine ⟨fun h => (by rw [h] at hsole'; cases hsole'), fun i hi w hw => ?_⟩
      have hik : i = k := by rw [hsole'] at hi; simpa using hi
      subst hik
      exact wpOp_mono (fun a' w' h3 => .inr (.inr ⟨hcut, h3.1, wpK_lex hs l (i + 1) w' a' hl' hcl' hB' h3.2⟩)) (hK w hw)

set_option maxRecDepth 100000 in
theorem wp_region_K {id : Nat} {Q : Exit → Act → World → Prop} {a : Act} {w : World} {l : List Oper} (hm : P.follows .mixedOrders = true) (hB : Region.lexB .any l.toArray = true)
    (h : wpK P l.toArray H late (fun a' w' => Q .normal a' w') l 0 w a) : (Code.region id l.toArray true).wp P Q a w := by
  simp only [Region.lexB, Bool.and_eq_true] at hB
  have h0 : wpK P l.toArray H late (fun a' w' => Q .normal a' w') l 0 w.drew a := by
    have key : ∀ (l' : List Oper) (k : Nat) (a : Act), wpK P l.toArray H late (fun a' w' => Q .normal a' w') l' k w a → wpK P l.toArray H late (fun a' w' => Q .normal a' w') l' k w.drew a := by
      intro l'
      induction l' with
      | nil => intro k a h w' hw'; exact h w' (((Ext.refl w).drew).trans hw')
      | cons o l' ih =>
        intro k a h
        rcases h with ⟨v, hy, hK⟩ | ⟨hs, hK⟩ | ⟨hs, h1, h2, hK⟩ | ⟨hs, h1, hK⟩
        · exact .inl ⟨v, hy.ext ((Ext.refl w).drew), ih _ _ hK⟩
        · exact .inr (.inl ⟨hs, fun w' hw' => hK w' (((Ext.refl w).drew).trans hw')⟩)
        · exact .inr (.inr (.inl ⟨hs, h1, h2, fun w' hw' => hK w' (((Ext.refl w).drew).trans hw')⟩))
        · exact .inr (.inr (.inr ⟨hs, h1, fun w' hw' => hK w' (((Ext.refl w).drew).trans hw')⟩))
    exact key l 0 a h
  have h1 := wpK_lex (P := P) (Q := fun a' w' => Q .normal a' w') hB.1 l 0 w.drew a (by simp) (Closed.start _ _ _) (by simpa [listedTo] using hB.2) h0
  exact wp_region_any hm (wpAny_of_K (fun _ _ h => h) _ _ _ _ (by simpa [listedTo] using h1))

set_option maxRecDepth 100000 in
/-- One operation at a time: a quiet one (or one whose guard says no). -/
theorem wpK_stepQ {Q : Act → World → Prop} {o : Oper} {rest : List Oper} {k : Nat} {W : World} {a : Act} (hl : late.contains k = false)
    (h : ∀ K : Act → Prop, (∀ a, wpK P ops H late Q rest (k + 1) W a → K a) → if Region.wanted o (yielded ops a.tmps) then ∃ v, QX P W o a v ∧ K (a.put o.dst v) else K (a.put o.dst undef)) : wpK P ops H late Q (o :: rest) k W a := by
  have h1 := h _ (fun _ h => h)
  by_cases hw : Region.wanted o (yielded ops a.tmps) = true
  · simp only [hw, if_true] at h1
    obtain ⟨v, hq, hK⟩ := h1
    exact .inl ⟨v, ⟨.inl ⟨hw, hq⟩, fun h => by rw [hl] at h; cases h⟩, hK⟩
  · simp only [hw] at h1
    have hw' : Region.wanted o (yielded ops a.tmps) = false := by simpa using hw
    exact .inl ⟨undef, ⟨.inr ⟨hw', rfl⟩, fun h => by rw [hl] at h; cases h⟩, h1⟩

set_option maxRecDepth 100000 in
/-- .. a quiet one that may come late: it reads below H alone. -/
theorem wpK_stepQL {Q : Act → World → Prop} {o : Oper} {rest : List Oper} {k : Nat} {W : World} {a : Act} (v : Value) (hg : o.guard = none) (hq : QK P H W o a v)
    (h : ∀ K : Act → Prop, (∀ a, wpK P ops H late Q rest (k + 1) W a → K a) → K (a.put o.dst v)) : wpK P ops H late Q (o :: rest) k W a := by
  have hw : Region.wanted o (yielded ops a.tmps) = true := by simp [Region.wanted, hg]
  have hy : YK P ops H W o v a := .inl ⟨hw, hq⟩
  exact .inl ⟨v, ⟨hy.yx, fun _ => hy⟩, h _ (fun _ h => h)⟩

set_option maxRecDepth 100000 in
/-- .. one that alone is ready. -/
theorem wpK_stepS {Q : Act → World → Prop} {o : Oper} {rest : List Oper} {k : Nat} {W : World} {a : Act} (ho : ops[k]? = some o) (hs : soleB ops k = true)
    (h : ∀ K : World → Act → Prop, (∀ W a, wpK P ops H late Q rest (k + 1) W a → K W a) → ∀ w, Ext W w →
      if Region.wanted o (yielded ops a.tmps) then o.wp P a w (fun a' w' => Ext w w' ∧ K w' a') NoExit else K w (a.put o.dst undef)) : wpK P ops H late Q (o :: rest) k W a := by
  refine .inr (.inl ⟨hs, fun w hw' => ?_⟩)
  have h1 := h _ (fun _ _ h => h) w hw'
  unfold wpOp
  simp only [ho]
  by_cases hw : Region.wanted o (yielded ops a.tmps) = true
  · simp only [hw, if_true] at h1 ⊢
    exact .inl h1
  · simp only [hw] at h1 ⊢
    exact ⟨Ext.refl _, h1⟩

set_option maxRecDepth 100000 in
/-- .. the last one, which may do anything. -/
theorem wpK_stepL {Q : Act → World → Prop} {o : Oper} {rest : List Oper} {k : Nat} {W : World} {a : Act} (ho : ops[k]? = some o) (hs : soleB ops k = true) (hl : lastB .any ops k = true)
    (he : (Region.ready .any ops (listedTo ops (k + 1))).isEmpty = true)
    (h : ∀ K : Act → World → Prop, (∀ a w, Q a w → K a w) → ∀ w, Ext W w → if Region.wanted o (yielded ops a.tmps) then o.wp P a w K NoExit else K (a.put o.dst undef) w) : wpK P ops H late Q (o :: rest) k W a := by
  refine .inr (.inr (.inl ⟨hs, hl, List.isEmpty_iff.1 he, fun w hw' => ?_⟩))
  have h1 := h _ (fun _ _ h => h) w hw'
  unfold wpOp
  simp only [ho]
  by_cases hw : Region.wanted o (yielded ops a.tmps) = true
  · simp only [hw, if_true] at h1 ⊢
    exact .inl h1
  · simp only [hw] at h1 ⊢
    exact h1

set_option maxRecDepth 100000 in
/-- .. one that stands before or behind every other one, and may do anything. -/
theorem wpK_stepC {Q : Act → World → Prop} {o : Oper} {rest : List Oper} {k : Nat} {W : World} {a : Act} (ho : ops[k]? = some o) (hs : (soleB ops k && cutKB .any ops late k) = true)
    (h : ∀ K : World → Act → Prop, (∀ W a, wpK P ops H late Q rest (k + 1) W a → K W a) → ∀ w, Ext W w →
      if Region.wanted o (yielded ops a.tmps) then o.wp P a w (fun a' w' => Sam H w w' ∧ K w' a') NoExit else K w (a.put o.dst undef)) : wpK P ops H late Q (o :: rest) k W a := by
  rw [Bool.and_eq_true] at hs
  refine .inr (.inr (.inr ⟨hs.1, hs.2, fun w hw' => ?_⟩))
  have h1 := h _ (fun _ _ h => h) w hw'
  unfold wpOp
  simp only [ho]
  by_cases hw : Region.wanted o (yielded ops a.tmps) = true
  · simp only [hw, if_true] at h1 ⊢
    exact .inl h1
  · simp only [hw] at h1 ⊢
    exact ⟨Sam.refl _ _, h1⟩

set_option maxRecDepth 100000 in
theorem wpK_nil {Q : Act → World → Prop} {k : Nat} {W : World} {a : Act} (h : ∀ w, Ext W w → Q a w) : wpK P ops H late Q [] k W a := h
end

def loserO (sz : Int) (vs : List Vt) : Int := onlyL (thoseO sz vs (fun i j => bt vs j i))
def winnerO (sz : Int) (vs : List Vt) : Int := onlyL (thoseO sz vs (bt vs))
set_option maxRecDepth 100000 in
theorem smallL (n : Nat) (vs : List Vt) : (upsL n vs).length = n ∧ (dnsL n vs).length = n := ⟨rowL_len _ _, rowL_len _ _⟩

set_option maxRecDepth 100000 in
theorem small_up {n : Nat} (h : n ≤ 5) (vs : List Vt) : (upsL n vs).length ≤ 2000000 := by have := smallL n vs; omega
set_option maxRecDepth 100000 in
theorem small_dn {n : Nat} (h : n ≤ 5) (vs : List Vt) : (dnsL n vs).length ≤ 2000000 := by have := smallL n vs; omega

section
variable {P : Program} {ops : Array Oper}
/-- As wpO, and a step that writes, before or behind all others. -/
def wpP (P : Program) (ops : Array Oper) (Q : Act → World → Prop) : List Nat → Array Bool → World → Act → Prop
  | [], _, W, a => ∀ w, Ext W w → Q a w
  | i :: rest, listed, W, a => ∃ o, ops[i]? = some o ∧
    ((∃ v, YX P ops W o v a ∧ wpP P ops Q rest (listed.setIfInBounds i true) W (a.put o.dst v)) ∨
    (Region.ready .any ops listed = [i] ∧ ∀ w, Ext W w → wpOp P ops NoExit i (fun a' w' => Ext w w' ∧ wpP P ops Q rest (listed.setIfInBounds i true) w' a') a w) ∨
    (Region.ready .any ops listed = [i] ∧ lastB .any ops i = true ∧ Region.ready .any ops (listed.setIfInBounds i true) = [] ∧ ∀ w, Ext W w → wpOp P ops NoExit i (fun a' w' => Q a' w') a w) ∨
    (Region.ready .any ops listed = [i] ∧ cutB .any ops i = true ∧ ∀ w, Ext W w → wpOp P ops NoExit i (fun a' w' => wpP P ops Q rest (listed.setIfInBounds i true) w' a') a w))

set_option maxRecDepth 100000 in
theorem wpP_any {Q : Act → World → Prop} (hs : Region.noSelect ops = true) : ∀ (l : List Nat) (listed : Array Bool) (W : World) (a : Act),
    Closed .any ops listed → ordB ops l listed = true → wpP P ops Q l listed W a → wpAnyX P .any ops Q l.length listed W a
  | [], _, _, _, _, hB, h => ⟨by simpa [ordB] using hB, h⟩
  | i :: l, listed, W, a, hcl, hB, h => by
    simp only [ordB, Bool.and_eq_true] at hB
    obtain ⟨⟨hr, hf⟩, hB'⟩ := hB
    have hcl' := hcl.set (j := i) (by simpa using hr)
    obtain ⟨o, h0, h⟩ := h
    rcases h with ⟨v, hy, hK⟩ | ⟨hsole', hK⟩ | ⟨hsole', hlast, hend, hK⟩ | ⟨hsole', hcut, hK⟩
    · exact wpAnyX_first h0 (Region.noSelect_spec hs) l.length _ W a (Region.free_spec h0 hf) hcl (by simpa using hr) hy (wpP_any hs l _ W _ hcl' hB' hK)
    · refine ⟨fun h => (by rw [h] at hsole'; cases hsole'), fun j hj w hw => ?_⟩
      have hik : j = i := by rw [hsole'] at hj; simpa using hj
      subst hik
      exact wpOp_mono (fun a' w' h3 => .inl ⟨h3.1, wpP_any hs l _ w' a' hcl' hB' h3.2⟩) (hK w hw)
    · refine ⟨fun h => (by rw [h] at hsole'; cases hsole'), fun j hj w hw => ?_⟩
      have hik : j = i := by rw [hsole'] at hj; simpa using hj
      subst hik
      exact wpOp_mono (fun a' w' h3 => .inr (.inl ⟨hlast, hend, h3⟩)) (hK w hw)
    · refine ⟨fun h => (by rw [h] at hsole'; cases hsole'), fun j hj w hw => ?_⟩
      have hik : j = i := by rw [hsole'] at hj; simpa using hj
      subst hik
      exact wpOp_mono (fun a' w' h3 => .inr (.inr ⟨hcut, wpP_any hs l _ w' a' hcl' hB' h3⟩)) (hK w hw)

set_option maxRecDepth 100000 in
theorem wp_region_P {id : Nat} {Q : Exit → Act → World → Prop} {a : Act} {w : World} {l : List Oper} (is : List Nat) (hm : P.follows .mixedOrders = true) (hlen : is.length = l.length)
    (hB : (Region.noSelect l.toArray && ordB l.toArray is (Array.replicate l.length false)) = true)
    (h : wpP P l.toArray (fun a' w' => Q .normal a' w') is (Array.replicate l.length false) w a) : (Code.region id l.toArray true).wp P Q a w := by
  simp only [Bool.and_eq_true] at hB
  have key : ∀ (l' : List Nat) (listed : Array Bool) (a : Act), wpP P l.toArray (fun a' w' => Q .normal a' w') l' listed w a → wpP P l.toArray (fun a' w' => Q .normal a' w') l' listed w.drew a := by
    intro l'
    induction l' with
    | nil => intro listed a h w' hw'; exact h w' (((Ext.refl w).drew).trans hw')
    | cons i l' ih =>
      intro listed a h
      obtain ⟨o, h0, h⟩ := h
      refine ⟨o, h0, ?_⟩
      rcases h with ⟨v, hy, hK⟩ | ⟨hs, hK⟩ | ⟨hs, h1, h2, hK⟩ | ⟨hs, h1, hK⟩
      · exact .inl ⟨v, hy.mono ((Ext.refl w).drew), ih _ _ hK⟩
      · exact .inr (.inl ⟨hs, fun w' hw' => hK w' (((Ext.refl w).drew).trans hw')⟩)
      · exact .inr (.inr (.inl ⟨hs, h1, h2, fun w' hw' => hK w' (((Ext.refl w).drew).trans hw')⟩))
      · exact .inr (.inr (.inr ⟨hs, h1, fun w' hw' => hK w' (((Ext.refl w).drew).trans hw')⟩))
  have h1 := wpP_any (P := P) (Q := fun a' w' => Q .normal a' w') hB.1 is _ w.drew a (Closed.start _ _ _) hB.2 (key is _ a h)
  rw [hlen] at h1
  exact wp_region_any hm (wpAny_of_X (fun _ _ h => h) _ _ _ _ (by simpa using h1))

set_option maxRecDepth 100000 in
theorem wpP_stepQ {Q : Act → World → Prop} {o : Oper} {i : Nat} {rest : List Nat} {listed : Array Bool} {W : World} {a : Act} (h0 : ops[i]? = some o)
    (h : ∀ K : Act → Prop, (∀ a, wpP P ops Q rest (listed.setIfInBounds i true) W a → K a) → if Region.wanted o (yielded ops a.tmps) then ∃ v, QX P W o a v ∧ K (a.put o.dst v) else K (a.put o.dst undef)) : wpP P ops Q (i :: rest) listed W a := by
  have h1 := h _ (fun _ h => h)
  refine ⟨o, h0, .inl ?_⟩
  by_cases hw : Region.wanted o (yielded ops a.tmps) = true
  · simp only [hw, if_true] at h1
    obtain ⟨v, hq, hK⟩ := h1
    exact ⟨v, .inl ⟨hw, hq⟩, hK⟩
  · simp only [hw] at h1
    exact ⟨undef, .inr ⟨by simpa using hw, rfl⟩, h1⟩

set_option maxRecDepth 100000 in
theorem wpP_stepS {Q : Act → World → Prop} {o : Oper} {i : Nat} {rest : List Nat} {listed : Array Bool} {W : World} {a : Act} (h0 : ops[i]? = some o) (hs : (Region.ready .any ops listed == [i]) = true)
    (h : ∀ K : World → Act → Prop, (∀ W a, wpP P ops Q rest (listed.setIfInBounds i true) W a → K W a) → ∀ w, Ext W w →
      if Region.wanted o (yielded ops a.tmps) then o.wp P a w (fun a' w' => Ext w w' ∧ K w' a') NoExit else K w (a.put o.dst undef)) : wpP P ops Q (i :: rest) listed W a := by
  refine ⟨o, h0, .inr (.inl ⟨by simpa using hs, fun w hw' => ?_⟩)⟩
  have h1 := h _ (fun _ _ h => h) w hw'
  unfold wpOp
  simp only [h0]
  by_cases hw : Region.wanted o (yielded ops a.tmps) = true
  · simp only [hw, if_true] at h1 ⊢
    exact .inl h1
  · simp only [hw] at h1 ⊢
    exact ⟨Ext.refl _, h1⟩

set_option maxRecDepth 100000 in
theorem wpP_stepC {Q : Act → World → Prop} {o : Oper} {i : Nat} {rest : List Nat} {listed : Array Bool} {W : World} {a : Act} (h0 : ops[i]? = some o) (hs : (Region.ready .any ops listed == [i] && cutB .any ops i) = true)
    (h : ∀ K : World → Act → Prop, (∀ W a, wpP P ops Q rest (listed.setIfInBounds i true) W a → K W a) → ∀ w, Ext W w →
      if Region.wanted o (yielded ops a.tmps) then o.wp P a w (fun a' w' => K w' a') NoExit else K w (a.put o.dst undef)) : wpP P ops Q (i :: rest) listed W a := by
  rw [Bool.and_eq_true] at hs
  refine ⟨o, h0, .inr (.inr (.inr ⟨by simpa using hs.1, hs.2, fun w hw' => ?_⟩))⟩
  have h1 := h _ (fun _ _ h => h) w hw'
  unfold wpOp
  simp only [h0]
  by_cases hw : Region.wanted o (yielded ops a.tmps) = true
  · simp only [hw, if_true] at h1 ⊢
    exact .inl h1
  · simp only [hw] at h1 ⊢
    exact h1

set_option maxRecDepth 100000 in
theorem wpP_stepL {Q : Act → World → Prop} {o : Oper} {i : Nat} {rest : List Nat} {listed : Array Bool} {W : World} {a : Act} (h0 : ops[i]? = some o) (hs : (Region.ready .any ops listed == [i]) = true) (hl : lastB .any ops i = true)
    (he : (Region.ready .any ops (listed.setIfInBounds i true)).isEmpty = true)
    (h : ∀ K : Act → World → Prop, (∀ a w, Q a w → K a w) → ∀ w, Ext W w → if Region.wanted o (yielded ops a.tmps) then o.wp P a w K NoExit else K (a.put o.dst undef) w) : wpP P ops Q (i :: rest) listed W a := by
  refine ⟨o, h0, .inr (.inr (.inl ⟨by simpa using hs, hl, List.isEmpty_iff.1 he, fun w hw' => ?_⟩))⟩
  have h1 := h _ (fun _ _ h => h) w hw'
  unfold wpOp
  simp only [h0]
  by_cases hw : Region.wanted o (yielded ops a.tmps) = true
  · simp only [hw, if_true] at h1 ⊢
    exact .inl h1
  · simp only [hw] at h1 ⊢
    exact h1

set_option maxRecDepth 100000 in
theorem wpP_nil {Q : Act → World → Prop} {listed : Array Bool} {W : World} {a : Act} (h : ∀ w, Ext W w → Q a w) : wpP P ops Q [] listed W a := h
end

def boxF (s : Int) (v : Value) (o : Nat) : Value := if o = 0 then .int .i64 s else if o = 1 then v else undef

end Go.Proofs.YtfmeklgdaabooaaGreatDoor
