/- Eliminations, as lists: who goes next, and in which order all go. Sorting by insertion, the greatest key first: from the left and from the right (plain law). A drawn region in which some loads may come behind an operation that writes: they read below H, and it writes from H on. slices.Repeat of one integer. -/
import Derived.Test.YtfmeklgdaabooaaGreatDoorCn4
import Derived.Test.YtfmeklgdaabooaaGreatDoorCn5
import Derived.Test.YtfmeklgdaabooaaGreatDoorCn0
import Derived.Test.YtfmeklgdaabooaaGreatDoorCn2
import Derived.Laws.IdiomCopy
namespace Go.Proofs.YtfmeklgdaabooaaGreatDoor
open Go.RowKit

/-- The last of those with the least worth, -1 if there is none. -/
def pickV (f : Int → Int) (xs : List Int) : Int := xs.foldl (fun cur x => if cur < 0 ∨ f x ≤ f cur then x else cur) (-1)
set_option maxRecDepth 100000 in
theorem pickV_nil (f : Int → Int) : pickV f [] = -1 := rfl
set_option maxRecDepth 100000 in
theorem pickV_snoc (f : Int → Int) (xs : List Int) (x : Int) : pickV f (xs ++ [x]) = if pickV f xs < 0 ∨ f x ≤ f (pickV f xs) then x else pickV f xs := by
  unfold pickV; rw [List.foldl_append]; rfl
set_option maxRecDepth 100000 in
theorem foldl_pick (f : Int → Int) : ∀ (xs : List Int) (cur : Int), xs.foldl (fun cur x => if cur < 0 ∨ f x ≤ f cur then x else cur) cur = cur ∨ xs.foldl (fun cur x => if cur < 0 ∨ f x ≤ f cur then x else cur) cur ∈ xs
  | [], cur => .inl rfl
  | x :: xs, cur => by
    rw [List.foldl_cons]
    rcases foldl_pick f xs (if cur < 0 ∨ f x ≤ f cur then x else cur) with h | h
    · rw [h]
      split
      · exact .inr (by simp)
      · exact .inl rfl
    · exact .inr (List.mem_cons_of_mem _ h)
set_option maxRecDepth 100000 in
theorem pickV_mem {f : Int → Int} {xs : List Int} (h : xs ≠ []) : pickV f xs ∈ xs := by
  cases xs with
  | nil => exact absurd rfl h
  | cons x xs =>
    unfold pickV
    rw [List.foldl_cons, if_pos (.inl (by decide))]
    rcases foldl_pick f xs x with h | h
    · rw [h]; simp
    · exact List.mem_cons_of_mem _ h
set_option maxRecDepth 100000 in
theorem erase_filter : ∀ {xs : List Int} {i : Nat} {x : Int}, xs.Nodup → xs[i]? = some x → xs.eraseIdx i = xs.filter (fun y => !(y == x))
  | [], _, _, _, h => by simp at h
  | y :: ys, 0, x, hd, h => by
    simp at h
    subst h
    rw [List.nodup_cons] at hd
    have : ys.filter (fun z => !(z == y)) = ys := List.filter_eq_self.2 (fun z hz => by
      simp only [Bool.not_eq_true', beq_eq_false_iff_ne]
      rintro rfl
      exact hd.1 hz)
    simp [this]
  | y :: ys, i + 1, x, hd, h => by
    rw [List.nodup_cons] at hd
    simp only [List.getElem?_cons_succ] at h
    have hne : y ≠ x := by rintro rfl; exact hd.1 (List.mem_of_getElem? h)
    have hb : (y == x) = false := by simpa using hne
    rw [List.eraseIdx_cons_succ, erase_filter hd.2 h, List.filter_cons, hb]
    rfl
/-- Candidates that are not in a list. -/
def notIn (out : List Int) (i : Nat) : Bool := !hasI out (i : Int)
def leftL (n : Nat) (out : List Int) : List Int := upL n (notIn out)
set_option maxRecDepth 100000 in
theorem hasI_iff {xs : List Int} {x : Int} : hasI xs x = true ↔ x ∈ xs := by unfold hasI; simp
set_option maxRecDepth 100000 in
theorem upL_mem {n : Nat} {q : Nat → Bool} {x : Int} : x ∈ upL n q ↔ ∃ i : Nat, i < n ∧ q i = true ∧ x = i := by
  unfold upL
  simp only [List.mem_map, List.mem_filter, List.mem_range]
  constructor
  · rintro ⟨i, ⟨h1, h2⟩, rfl⟩; exact ⟨i, h1, h2, rfl⟩
  · rintro ⟨i, h1, h2, rfl⟩; exact ⟨i, ⟨h1, h2⟩, rfl⟩
set_option maxRecDepth 100000 in
theorem upL_nodup (n : Nat) (q : Nat → Bool) : (upL n q).Nodup := by
  unfold upL
  refine List.Pairwise.map _ (fun a b h => ?_) (List.Pairwise.filter _ List.nodup_range)
  intro e
  have e' : (a : Int) = (b : Int) := e
  exact h (by omega)
set_option maxRecDepth 100000 in
theorem leftL_mem {n : Nat} {out : List Int} {x : Int} : x ∈ leftL n out ↔ ∃ i : Nat, i < n ∧ (i : Int) ∉ out ∧ x = i := by
  unfold leftL
  rw [upL_mem]
  constructor
  · rintro ⟨i, h1, h2, h3⟩
    refine ⟨i, h1, fun h => ?_, h3⟩
    rw [notIn, hasI_iff.2 h] at h2; cases h2
  · rintro ⟨i, h1, h2, h3⟩
    refine ⟨i, h1, ?_, h3⟩
    unfold notIn
    cases h : hasI out (i : Int)
    · rfl
    · exact absurd (hasI_iff.1 h) h2
set_option maxRecDepth 100000 in
theorem leftL_pos {n : Nat} {out : List Int} {x : Int} (h : x ∈ leftL n out) : 0 ≤ x := by obtain ⟨i, _, _, rfl⟩ := leftL_mem.1 h; omega
set_option maxRecDepth 100000 in
/-- One more has gone. -/
theorem leftL_erase {n k : Nat} {out : List Int} {x : Int} (h : (leftL n out)[k]? = some x) : (leftL n out).eraseIdx k = leftL n (out ++ [x]) := by
  rw [erase_filter (show (leftL n out).Nodup from upL_nodup n (notIn out)) h]
  unfold leftL upL
  rw [List.filter_map, List.filter_filter]
  congr 1
  refine List.filter_congr (fun i _ => ?_)
  rw [Bool.eq_iff_iff]
  have e : hasI (out ++ [x]) (i : Int) = true ↔ hasI out (i : Int) = true ∨ (i : Int) = x := by
    rw [hasI_iff, hasI_iff]; simp
  unfold notIn
  simp only [Function.comp, Bool.and_eq_true, Bool.not_eq_true', beq_eq_false_iff_ne]
  constructor
  · rintro ⟨h1, h2⟩
    cases h3 : hasI (out ++ [x]) (i : Int)
    · rfl
    · rcases e.1 h3 with h4 | h4
      · rw [h2] at h4; cases h4
      · exact absurd h4 h1
  · intro h3
    refine ⟨fun h4 => ?_, ?_⟩
    · rw [e.2 (.inr h4)] at h3; cases h3
    · cases h5 : hasI out (i : Int)
      · rfl
      · rw [e.2 (.inl h5)] at h3; cases h3
set_option maxRecDepth 100000 in
theorem leftL_len {n : Nat} {out : List Int} : (leftL n out).length ≤ n := upL_len _ _

/-- The first k that are eliminated, by the worth W. -/
def elimL (n : Nat) (W : List Int → Int → Int) : Nat → List Int
  | 0 => []
  | k + 1 => elimL n W k ++ [pickV (W (leftL n (elimL n W k))) (leftL n (elimL n W k))]
set_option maxRecDepth 100000 in
theorem elimL_len (n : Nat) (W : List Int → Int → Int) : ∀ k, (elimL n W k).length = k
  | 0 => rfl
  | k + 1 => by rw [elimL, List.length_append, elimL_len n W k]; rfl
set_option maxRecDepth 100000 in
theorem leftL_nil (n : Nat) : leftL n [] = upL n (fun _ => true) := upL_congr (fun i _ => by simp [notIn, hasI])
set_option maxRecDepth 100000 in
theorem upL_true_len : ∀ n, (upL n (fun _ => true)).length = n
  | 0 => rfl
  | n + 1 => by rw [upL_succ, List.length_append, upL_true_len n]; rfl
set_option maxRecDepth 100000 in
theorem leftL_elim {n : Nat} (W : List Int → Int → Int) : ∀ k, k ≤ n → (leftL n (elimL n W k)).length = n - k
  | 0, _ => by rw [elimL, leftL_nil, upL_true_len]; rfl
  | k + 1, hk => by
    have ih := leftL_elim (n := n) W k (by omega)
    have hne : leftL n (elimL n W k) ≠ [] := fun e => by rw [e] at ih; simp at ih; omega
    have hm := pickV_mem (f := W (leftL n (elimL n W k))) hne
    obtain ⟨i, hi⟩ := List.mem_iff_getElem?.1 hm
    have hlt := lt_of_at hi
    rw [elimL, ← leftL_erase hi, List.length_eraseIdx, if_pos hlt, ih]
    omega

/-- x behind all that have a key at least as great, at the front of the list. -/
def insD {α : Type} (f : α → Int) (xs : List α) (a : α) : List α := xs.takeWhile (fun y => decide (f a ≤ f y)) ++ a :: xs.dropWhile (fun y => decide (f a ≤ f y))
def sortD {α : Type} (f : α → Int) (xs : List α) : List α := xs.foldl (insD f) []
set_option maxRecDepth 100000 in
theorem sortD_snoc {α : Type} (f : α → Int) (xs : List α) (a : α) : sortD f (xs ++ [a]) = insD f (sortD f xs) a := by simp [sortD]
set_option maxRecDepth 100000 in
theorem sortD_at {α : Type} {f : α → Int} {xs : List α} {k : Nat} {x : α} (h : xs[k]? = some x) : sortD f (xs.take (k + 1)) = insD f (sortD f (xs.take k)) x := by rw [take_at h, sortD_snoc]
set_option maxRecDepth 100000 in
theorem insD_len {α : Type} (f : α → Int) (xs : List α) (a : α) : (insD f xs a).length = xs.length + 1 := by
  have h : (xs.takeWhile (fun y => decide (f a ≤ f y)) ++ xs.dropWhile (fun y => decide (f a ≤ f y))).length = xs.length := by rw [List.takeWhile_append_dropWhile]
  rw [List.length_append] at h
  unfold insD
  rw [List.length_append, List.length_cons]; omega
set_option maxRecDepth 100000 in
theorem insD_perm {α : Type} (f : α → Int) (xs : List α) (a : α) : (insD f xs a).Perm (a :: xs) := by
  unfold insD
  refine List.perm_middle.trans ?_
  rw [List.takeWhile_append_dropWhile]
set_option maxRecDepth 100000 in
theorem insD_mem {α : Type} {f : α → Int} {xs : List α} {a y : α} : y ∈ insD f xs a ↔ y = a ∨ y ∈ xs := by
  rw [(insD_perm f xs a).mem_iff]; simp
set_option maxRecDepth 100000 in
theorem foldl_ins_perm {α : Type} (f : α → Int) : ∀ (xs acc : List α), (xs.foldl (insD f) acc).Perm (xs ++ acc)
  | [], acc => by simp
  | x :: xs, acc => by
    refine (foldl_ins_perm f xs (insD f acc x)).trans ?_
    refine ((List.Perm.refl xs).append (insD_perm f acc x)).trans ?_
    exact List.perm_middle
set_option maxRecDepth 100000 in
theorem sortD_perm {α : Type} (f : α → Int) (xs : List α) : (sortD f xs).Perm xs := by
  have h := foldl_ins_perm f xs []
  rw [List.append_nil] at h
  exact h
set_option maxRecDepth 100000 in
theorem sortD_len {α : Type} (f : α → Int) (xs : List α) : (sortD f xs).length = xs.length := (sortD_perm f xs).length_eq
set_option maxRecDepth 100000 in
theorem sortD_mem {α : Type} {f : α → Int} {xs : List α} {y : α} : y ∈ sortD f xs ↔ y ∈ xs := (sortD_perm f xs).mem_iff

def DescK {α : Type} (f : α → Int) (xs : List α) : Prop := xs.Pairwise (fun x y => f y ≤ f x)
set_option maxRecDepth 100000 in
theorem takeW_all {α : Type} {p : α → Bool} : ∀ {xs : List α} {y : α}, y ∈ xs.takeWhile p → p y = true
  | [], y, h => by simp at h
  | x :: xs, y, h => by
    rw [List.takeWhile_cons] at h
    split at h
    · rename_i hx
      rcases List.mem_cons.1 h with rfl | h
      · exact hx
      · exact takeW_all h
    · simp at h
set_option maxRecDepth 100000 in
theorem insD_desc {α : Type} {f : α → Int} : ∀ {xs : List α} (a : α), DescK f xs → DescK f (insD f xs a)
  | [], a, _ => by simp [DescK, insD]
  | x :: xs, a, h => by
    unfold DescK at h
    rw [List.pairwise_cons] at h
    have ih : DescK f (insD f xs a) := insD_desc a h.2
    by_cases hx : f a ≤ f x
    · have e : insD f (x :: xs) a = x :: insD f xs a := by simp [insD, hx]
      rw [e]
      unfold DescK
      rw [List.pairwise_cons]
      refine ⟨fun y hy => ?_, ih⟩
      rcases insD_mem.1 hy with rfl | hy
      · exact hx
      · exact h.1 y hy
    · have e : insD f (x :: xs) a = a :: x :: xs := by simp [insD, hx]
      rw [e]
      unfold DescK
      rw [List.pairwise_cons]
      refine ⟨fun y hy => ?_, List.pairwise_cons.2 h⟩
      rcases List.mem_cons.1 hy with rfl | hy
      · omega
      · have := h.1 y hy; omega
set_option maxRecDepth 100000 in
theorem foldl_ins_desc {α : Type} (f : α → Int) : ∀ (xs acc : List α), DescK f acc → DescK f (xs.foldl (insD f) acc)
  | [], _, h => h
  | x :: xs, _, h => foldl_ins_desc f xs _ (insD_desc x h)
set_option maxRecDepth 100000 in
theorem sortD_desc {α : Type} (f : α → Int) (xs : List α) : DescK f (sortD f xs) := foldl_ins_desc f xs [] List.Pairwise.nil

set_option maxRecDepth 100000 in
/-- A place in a descending list with only greater or equal keys before it and only smaller ones from it on is where insertion puts x. -/
theorem insD_place {α : Type} {f : α → Int} {a : α} : ∀ {xs : List α} {j : Nat}, (∀ y ∈ xs.take j, f a ≤ f y) → (∀ y ∈ xs.drop j, f y < f a) → insD f xs a = xs.take j ++ a :: xs.drop j
  | [], j, _, _ => by simp [insD]
  | x :: xs, 0, _, h2 => by
    have hx : ¬ f a ≤ f x := by have := h2 x (by simp); omega
    simp [insD, hx]
  | x :: xs, j + 1, h1, h2 => by
    have hx : f a ≤ f x := h1 x (by simp)
    have ih := insD_place (f := f) (a := a) (xs := xs) (j := j) (fun y hy => h1 y (by simp [hy])) (fun y hy => h2 y (by simpa using hy))
    have e : insD f (x :: xs) a = x :: insD f xs a := by simp [insD, hx]
    rw [e, ih]; simp
set_option maxRecDepth 100000 in
/-- The same where only the neighbour in front is known, the list being in order. -/
theorem insD_stop {α : Type} {f : α → Int} {a : α} {xs : List α} {j : Nat} (hd : DescK f xs) (h1 : j = 0 ∨ ∃ y, xs[j - 1]? = some y ∧ f a ≤ f y) (h2 : ∀ y ∈ xs.drop j, f y < f a) : insD f xs a = xs.take j ++ a :: xs.drop j := by
  refine insD_place (fun y hy => ?_) h2
  rcases h1 with rfl | ⟨z, hz, hle⟩
  · simp at hy
  · obtain ⟨i, hi⟩ := List.mem_iff_getElem?.1 hy
    have hij : i < j := by have := lt_of_at hi; rw [List.length_take] at this; omega
    rw [List.getElem?_take_of_lt hij] at hi
    rcases Nat.lt_or_ge i (j - 1) with hlt | hge
    · have hl1 := lt_of_at hi
      have hl2 := lt_of_at hz
      have := List.pairwise_iff_getElem.1 hd i (j - 1) hl1 hl2 hlt
      rw [List.getElem?_eq_getElem hl1] at hi
      rw [List.getElem?_eq_getElem hl2] at hz
      injection hi with hi
      injection hz with hz
      subst hi
      subst hz
      omega
    · have : i = j - 1 := by omega
      subst this
      rw [hi] at hz
      injection hz with hz
      subst hz
      exact hle
set_option maxRecDepth 100000 in
/-- How many stand in front, counted from the front. -/
theorem insD_count {α : Type} {f : α → Int} {a : α} {xs : List α} {k : Nat} (h1 : ∀ y ∈ xs.take k, f a ≤ f y) (h2 : k = xs.length ∨ ∃ y, xs[k]? = some y ∧ f y < f a) (hd : DescK f xs) : insD f xs a = xs.take k ++ a :: xs.drop k := by
  refine insD_place h1 (fun y hy => ?_)
  rcases h2 with rfl | ⟨z, hz, hlt⟩
  · simp at hy
  · obtain ⟨i, hi⟩ := List.mem_iff_getElem?.1 hy
    rw [List.getElem?_drop] at hi
    rcases Nat.eq_zero_or_pos i with rfl | hpos
    · rw [Nat.add_zero, hz] at hi
      injection hi with hi
      subst hi
      exact hlt
    · have hl1 := lt_of_at hz
      have hl2 := lt_of_at hi
      have := List.pairwise_iff_getElem.1 hd k (k + i) hl1 hl2 (by omega)
      rw [List.getElem?_eq_getElem hl1] at hz
      rw [List.getElem?_eq_getElem hl2] at hi
      injection hi with hi
      injection hz with hz
      subst hi
      subst hz
      omega

/-- All blocks below H are as they were. -/
structure Low (H : Nat) (w w' : World) : Prop where
  size : w.heap.size ≤ w'.heap.size
  block : ∀ k, k < H → k < w.heap.size → w'.heap[k]? = w.heap[k]?
set_option maxRecDepth 100000 in
theorem Low.refl (H : Nat) (w : World) : Low H w w := ⟨Nat.le_refl _, fun _ _ _ => rfl⟩
set_option maxRecDepth 100000 in
theorem Low.trans {H : Nat} {a b c : World} (h : Low H a b) (k : Low H b c) : Low H a c := ⟨Nat.le_trans h.size k.size, fun i hi hl => (k.block i hi (Nat.lt_of_lt_of_le hl h.size)).trans (h.block i hi hl)⟩
set_option maxRecDepth 100000 in
theorem Low.of_ext {H : Nat} {w w' : World} (h : Ext w w') : Low H w w' := ⟨h.size, fun k _ hl => Below.block h k hl⟩
set_option maxRecDepth 100000 in
theorem Low.keep {H : Nat} {w w' : World} (h : Low H w w') {p : Addr} {v : Value} (hp : p.block < H) (hc : w.cell? p = some v) : w'.cell? p = some v :=
  (World.cell?_of_block (w := w) (h.block p.block hp (World.block_lt_of_cell? w p hc))).trans hc

section
variable {P : Program} {ops : Array Oper} {md : Region.Mode} {H : Nat} {late : List Nat}

def QL (P : Program) (H : Nat) (W : World) (o : Oper) (a : Act) (v : Value) : Prop := ∀ w, Low H W w → qxUpon P w v ((execOp a.eval o).run P w)
def YL (P : Program) (ops : Array Oper) (H : Nat) (W : World) (o : Oper) (v : Value) (a : Act) : Prop :=
  (Region.wanted o (yielded ops a.tmps) = true ∧ QL P H W o a v) ∨ (Region.wanted o (yielded ops a.tmps) = false ∧ v = undef)
set_option maxRecDepth 100000 in
theorem YL.yx {W : World} {o : Oper} {v : Value} {a : Act} (h : YL P ops H W o v a) : YX P ops W o v a := h.imp (fun ⟨h1, h2⟩ => ⟨h1, fun w hw => h2 w (Low.of_ext hw)⟩) id
set_option maxRecDepth 100000 in
theorem YL.low {W W' : World} {o : Oper} {v : Value} {a : Act} (h : YL P ops H W o v a) (hW : Low H W W') : YL P ops H W' o v a :=
  h.imp (fun ⟨h1, h2⟩ => ⟨h1, fun w hw => h2 w (hW.trans hw)⟩) id
set_option maxRecDepth 100000 in
theorem YL.of_same {W : World} {o : Oper} {v : Value} {a a' : Act} (hy : YL P ops H W o v a) (he : execOp a'.eval o = execOp a.eval o)
    (hw : Region.wanted o (yielded ops a'.tmps) = Region.wanted o (yielded ops a.tmps)) : YL P ops H W o v a' := by
  unfold YL QL at *
  rw [he, hw]
  exact hy
def Y2 (P : Program) (ops : Array Oper) (H : Nat) (lt : Bool) (W : World) (o : Oper) (v : Value) (a : Act) : Prop := YX P ops W o v a ∧ (lt = true → YL P ops H W o v a)
set_option maxRecDepth 100000 in
theorem Y2.of_same {lt : Bool} {W : World} {o : Oper} {v : Value} {a a' : Act} (hy : Y2 P ops H lt W o v a) (he : execOp a'.eval o = execOp a.eval o)
    (hw : Region.wanted o (yielded ops a'.tmps) = Region.wanted o (yielded ops a.tmps)) : Y2 P ops H lt W o v a' := ⟨hy.1.of_same he hw, fun h => (hy.2 h).of_same he hw⟩
set_option maxRecDepth 100000 in
theorem Y2.ext {lt : Bool} {W W' : World} {o : Oper} {v : Value} {a : Act} (hy : Y2 P ops H lt W o v a) (hW : Ext W W') : Y2 P ops H lt W' o v a := ⟨hy.1.mono hW, fun h => (hy.2 h).low (Low.of_ext hW)⟩
set_option maxRecDepth 100000 in
theorem Y2.mono {lt : Bool} {W W' : World} {o : Oper} {v : Value} {a : Act} (hy : Y2 P ops H lt W o v a) (hW : Ext W W') : Y2 P ops H lt W' o v a := hy.ext hW

/-- Operation j stands before or behind every other one (plain moves and the late ones aside). -/
def cutLB (md : Region.Mode) (ops : Array Oper) (late : List Nat) (j : Nat) : Bool :=
  (List.range ops.size).all fun i => i == j || moveB ops i || late.contains i || if i < j then ancB md ops ops.size j i else ancB md ops ops.size i j
set_option maxRecDepth 100000 in
theorem cutL_no {listed : Array Bool} (hc : Closed md ops listed) {i j : Nat} (h : cutLB md ops late j = true) (hi : i ∈ Region.ready md ops listed) (hj : j ∈ Region.ready md ops listed) (hne : i ≠ j) : moveB ops i = true ∨ late.contains i = true := by
  have two : ∀ {i : Nat} {listed : Array Bool}, listed.getD i true = false → listed.getD i false = true → False := fun {i listed} h1 h2 => by
    rcases Nat.lt_or_ge i listed.size with h' | h'
    · simp [h'] at h1 h2; rw [h1] at h2; cases h2
    · simp [Array.getElem?_eq_none h'] at h2
  obtain ⟨hi0, oi, hoi, hia⟩ := mem_ready.1 hi
  obtain ⟨hj0, oj, hoj, hja⟩ := mem_ready.1 hj
  simp only [cutLB, List.all_eq_true, List.mem_range] at h
  have h1 := h i (Array.getElem?_eq_some_iff.1 hoi).1
  rw [Bool.or_eq_true, Bool.or_eq_true, Bool.or_eq_true] at h1
  rcases h1 with ((h1 | h1) | h1) | h1
  · exact absurd (by simpa using h1) hne
  · exact .inl h1
  · exact .inr h1
  split at h1
  · exact (two hi0 (anc_listed hc _ j oj hoj hja h1)).elim
  · exact (two hj0 (anc_listed hc _ i oi hoi hia h1)).elim

/-- Whatever order is picked from here on, from every world that grew out of W. -/
def wpAnyL (P : Program) (md : Region.Mode) (ops : Array Oper) (H : Nat) (late : List Nat) (Q : Act → World → Prop) : Nat → Array Bool → World → Act → Prop
  | 0, listed, W, a => Region.ready md ops listed = [] ∧ ∀ w, Ext W w → Q a w
  | fuel + 1, listed, W, a =>
    (Region.ready md ops listed = [] → ∀ w, Ext W w → Q a w) ∧
    ∀ i ∈ Region.ready md ops listed, ∀ w, Ext W w → wpOp P ops NoExit i (fun a' w' => (Ext w w' ∧ wpAnyL P md ops H late Q fuel (listed.setIfInBounds i true) w' a') ∨
      (lastB md ops i = true ∧ Region.ready md ops (listed.setIfInBounds i true) = [] ∧ Q a' w') ∨ (cutLB md ops late i = true ∧ Low H w w' ∧ wpAnyL P md ops H late Q fuel (listed.setIfInBounds i true) w' a')) a w

set_option maxRecDepth 100000 in
theorem wpAnyL.mono {Q : Act → World → Prop} : ∀ (fuel : Nat) (listed : Array Bool) {W W' : World} {a : Act}, wpAnyL P md ops H late Q fuel listed W a → Ext W W' → wpAnyL P md ops H late Q fuel listed W' a
  | 0, _, _, _, _, h, hW => ⟨h.1, fun w hw => h.2 w (hW.trans hw)⟩
  | _ + 1, _, _, _, _, h, hW => ⟨fun h0 w hw => h.1 h0 w (hW.trans hw), fun i hi w hw => h.2 i hi w (hW.trans hw)⟩

set_option maxRecDepth 100000 in
theorem wpAny_of_L {Q : Act → World → Prop} {Q' : Exit → Act → World → Prop} (hQ : ∀ a w, Q a w → Q' .normal a w) : ∀ (fuel : Nat) (listed : Array Bool) (W : World) (a : Act),
    wpAnyL P md ops H late Q fuel listed W a → wpAny P md ops Q' fuel listed a W
  | 0, _, W, _, h => ⟨h.1, hQ _ _ (h.2 W (Ext.refl _))⟩
  | fuel + 1, listed, W, a, h => ⟨fun h0 => hQ _ _ (h.1 h0 W (Ext.refl _)), fun i hi => by
      have h1 := h.2 i hi W (Ext.refl _)
      have fin : ∀ {a' : Act} {w w' : World}, ((Ext w w' ∧ wpAnyL P md ops H late Q fuel (listed.setIfInBounds i true) w' a') ∨ (lastB md ops i = true ∧ Region.ready md ops (listed.setIfInBounds i true) = [] ∧ Q a' w') ∨ (cutLB md ops late i = true ∧ Low H w w' ∧ wpAnyL P md ops H late Q fuel (listed.setIfInBounds i true) w' a')) →
          wpAny P md ops Q' fuel (listed.setIfInBounds i true) a' w' := fun hh => hh.elim (fun h2 => wpAny_of_L hQ fuel _ _ _ h2.2) (fun h2 => h2.elim (fun h2 => wpAny_end h2.2.1 (hQ _ _ h2.2.2)) (fun h2 => wpAny_of_L hQ fuel _ _ _ h2.2.2))
      unfold wpOp at *
      split
      · rename_i ho; simp only [ho] at h1; exact fin h1
      · rename_i o ho
        simp only [ho] at h1
        split
        · rename_i hw
          simp only [hw, if_true] at h1
          rcases h1 with h1 | ⟨_, h1⟩
          · refine .inl ?_
            unfold Oper.wp at *
            generalize (execOp a.eval o).run P W = r at *
            cases r with
            | ok n w' =>
              cases n <;> simp only [Oper.upon] at h1 ⊢
              case value u => exact fin h1
              case skip => exact fin h1
              case defer d => exact fin h1
              case enter f args =>
                refine Calls.mono h1 fun e w'' he => ?_
                cases e with
                | returned u => exact fin he
                | panicked c => exact he.elim
                | outgrown => exact (noLets he).elim
              case row row args => exact Rows.mono h1 fun u w'' he => fin he
            | halt x w' => cases x <;> simp only [Oper.upon] at h1 ⊢ <;> exact h1.elim
          · exact (noLets h1).elim
        · rename_i hw
          simp only [hw] at h1
          exact fin h1⟩

set_option maxRecDepth 100000 in
theorem wpOp_putY {j : Nat} {oi oj : Oper} {v : Value} (Y : Act → Prop) (hsame : ∀ a a' : Act, Y a → execOp a'.eval oi = execOp a.eval oi → Region.wanted oi (yielded ops a'.tmps) = Region.wanted oi (yielded ops a.tmps) → Y a') (hj : ops[j]? = some oj) (hap : oi.apart ops oj = true)
    (hsi : ∀ cs b, oi.op ≠ .select cs b) (hsj : ∀ cs b, oj.op ≠ .select cs b) {K : Act → World → Prop} {a : Act} {w : World}
    (hy : Y a) (h : wpOp P ops NoExit j K (a.put oi.dst v) w) :
    wpOp P ops NoExit j (fun a' w' => Y a' ∧ K (a'.put oi.dst v) w') a w := by
  obtain ⟨h1, h2, h3⟩ := Oper.apart_spec hap
  have keep : ∀ (a : Act), Y a → ∀ u, Y (a.put oj.dst u) := fun a hy u =>
    hsame _ _ hy (execOp_put oi hsi a oj.dst u h3) (wanted_put oi a oj.dst u h3)
  have keepD : ∀ d, Y { a with defers := d :: a.defers } := fun d => hsame _ _ hy rfl rfl
  unfold wpOp at *
  simp only [hj] at *
  rw [wanted_put oj a oi.dst v h1] at h
  split
  · rename_i hw
    simp only [hw, if_true] at h
    rcases h with h | ⟨_, hlets⟩
    case inr => exact (noLets hlets).elim
    refine .inl ?_
    unfold Oper.wp at *
    rw [execOp_put oj hsj a oi.dst v h1] at h
    generalize (execOp a.eval oj).run P w = r at *
    cases r with
    | ok n w' =>
      cases n <;> simp only [Oper.upon] at h ⊢
      case value u => exact ⟨keep a hy u, by rw [← Act.put_comm a v u h2]; exact h⟩
      case skip => exact ⟨keep a hy _, by rw [← Act.put_comm a v undef h2]; exact h⟩
      case defer d =>
        refine ⟨keep _ (keepD d) _, ?_⟩
        rw [← Act.put_comm _ v undef h2, ← Act.put_defers]
        exact h
      case enter f args =>
        refine Calls.mono h fun e w'' he => ?_
        cases e with
        | returned u => exact ⟨keep a hy u, by rw [← Act.put_comm a v u h2]; exact he⟩
        | panicked c => exact he
        | outgrown => exact he
      case row row args => exact Rows.mono h fun u w'' he => ⟨keep a hy u, by rw [← Act.put_comm a v u h2]; exact he⟩
    | halt x w' =>
      cases x <;> simp only [Oper.upon] at h ⊢ <;> exact h
  · rename_i hw
    simp only [hw] at h
    exact ⟨keep a hy _, by rw [← Act.put_comm a v undef h2]; exact h⟩

set_option maxRecDepth 100000 in
theorem wpAnyL_first {Q : Act → World → Prop} {i : Nat} {oi : Oper} {v : Value} (hi : ops[i]? = some oi) (hsel : ∀ (j : Nat) (o : Oper) cs b, ops[j]? = some o → o.op ≠ .select cs b) :
    ∀ (fuel : Nat) (listed : Array Bool) (W : World) (a : Act),
      (∀ j oj, ops[j]? = some oj → j ≠ i → listed.getD j true = false → (∀ e ∈ oj.after, Region.binds md e = true → e.on ≠ i) → oi.apart ops oj = true) →
      Closed md ops listed → i ∈ Region.ready md ops listed → Y2 P ops H (late.contains i) W oi v a →
      wpAnyL P md ops H late Q fuel (listed.setIfInBounds i true) W (a.put oi.dst v) → wpAnyL P md ops H late Q (fuel + 1) listed W a := by
  intro fuel
  induction fuel with
  | zero =>
    intro listed W a _ _ hr hy HH
    refine ⟨fun h => (by rw [h] at hr; cases hr), fun j hj w hw => ?_⟩
    by_cases hji : j = i
    · subst hji; exact hy.1.wpOp hi hw fun w' hw' => .inl ⟨hw', HH.mono _ _ (hw.trans hw')⟩
    · have := ready_mono hj hji
      rw [HH.1] at this
      cases this
  | succ fuel ih =>
    intro listed W a hfree hcl hr hy HH
    refine ⟨fun h => (by rw [h] at hr; cases hr), fun j hj w hw => ?_⟩
    by_cases hji : j = i
    · subst hji; exact hy.1.wpOp hi hw fun w' hw' => .inl ⟨hw', HH.mono _ _ (hw.trans hw')⟩
    · have h1 := HH.2 j (ready_mono hj hji) w hw
      obtain ⟨hjun, oj, hoj, hall⟩ := mem_ready.1 hj
      have hnot : ∀ e ∈ oj.after, Region.binds md e = true → e.on ≠ i := fun e he hb heq => by
        have h1 := hall e he hb
        have h0 := (mem_ready.1 hr).1
        rw [heq] at h1
        rcases Nat.lt_or_ge i listed.size with h' | h'
        · simp [h'] at h0 h1; rw [h0] at h1; cases h1
        · simp [Array.getElem?_eq_none h'] at h1
      have h2 := wpOp_putY (Y2 P ops H (late.contains i) W oi v) (fun _ _ hy he hw => hy.of_same he hw) hoj (hfree j oj hoj hji hjun hnot) (fun cs b => hsel i oi cs b hi) (fun cs b => hsel j oj cs b hoj) hy h1
      have hfree' : ∀ k ok, ops[k]? = some ok → k ≠ i → (listed.setIfInBounds j true).getD k true = false →
          (∀ e ∈ ok.after, Region.binds md e = true → e.on ≠ i) → oi.apart ops ok = true := fun k ok hk hki hun hno => by
        refine hfree k ok hk hki ?_ hno
        by_cases hjk : j = k
        · subst hjk; exact hjun
        · rw [getD_set_ne true hjk] at hun; exact hun
      refine wpOp_mono (fun a' w' h3 => ?_) h2
      rcases h3 with ⟨h3, h4 | h4 | h4⟩
      · refine .inl ⟨h4.1, ih (listed.setIfInBounds j true) w' a' hfree' (hcl.set hj) (ready_mono hr (Ne.symm hji)) (h3.mono (hw.trans h4.1)) ?_⟩
        rw [Array.setIfInBounds_comm _ _ hji]
        exact h4.2
      · obtain ⟨e, he, hb, heq⟩ := lastB_spec h4.1 hoj (Array.getElem?_eq_some_iff.1 hi).1 (Ne.symm hji)
        exact absurd heq (hnot e he hb)
      · have hy3 : Y2 P ops H (late.contains i) w' oi v a' := by
          rcases cutL_no hcl h4.1 hr hj (Ne.symm hji) with hm | hl
          · obtain ⟨x, hx⟩ := moveB_spec hm hi
            exact ⟨h3.1.move hx, fun hl => (h3.2 hl).low ((Low.of_ext hw).trans h4.2.1)⟩
          · have h5 := (h3.2 hl).low ((Low.of_ext hw).trans h4.2.1)
            exact ⟨h5.yx, fun _ => h5⟩
        refine .inr (.inr ⟨h4.1, h4.2.1, ih (listed.setIfInBounds j true) w' a' hfree' (hcl.set hj) (ready_mono hr (Ne.symm hji)) hy3 ?_⟩)
        rw [Array.setIfInBounds_comm _ _ hji]
        exact h4.2.2

/-- THE WALK IN THE ORDER OF THE TEXT. -/
def wpL (P : Program) (ops : Array Oper) (H : Nat) (late : List Nat) (Q : Act → World → Prop) : List Oper → Nat → World → Act → Prop
  | [], _, W, a => ∀ w, Ext W w → Q a w
  | o :: rest, k, W, a =>
    (∃ v, Y2 P ops H (late.contains k) W o v a ∧ wpL P ops H late Q rest (k + 1) W (a.put o.dst v)) ∨
    (soleB ops k = true ∧ ∀ w, Ext W w → wpOp P ops NoExit k (fun a' w' => Ext w w' ∧ wpL P ops H late Q rest (k + 1) w' a') a w) ∨
    (soleB ops k = true ∧ lastB .any ops k = true ∧ Region.ready .any ops (listedTo ops (k + 1)) = [] ∧ ∀ w, Ext W w → wpOp P ops NoExit k (fun a' w' => Q a' w') a w) ∨
    (soleB ops k = true ∧ cutLB .any ops late k = true ∧ ∀ w, Ext W w → wpOp P ops NoExit k (fun a' w' => Low H w w' ∧ wpL P ops H late Q rest (k + 1) w' a') a w)

set_option maxRecDepth 100000 in
theorem wpL_lex {Q : Act → World → Prop} (hs : Region.noSelect ops = true) : ∀ (l : List Oper) (k : Nat) (W : World) (a : Act), (∀ j, l[j]? = ops[k + j]?) → Closed .any ops (listedTo ops k) →
    Region.lexFrom .any ops l.length k (listedTo ops k) = true → wpL P ops H late Q l k W a → wpAnyL P .any ops H late Q l.length (listedTo ops k) W a
  | [], _, _, _, _, _, hB, h => ⟨by simpa [Region.lexFrom] using hB, h⟩
  | o :: l, k, W, a, hl, hcl, hB, h => by
    have h0 : ops[k]? = some o := by simpa using (hl 0).symm
    simp only [List.length_cons, Region.lexFrom, Bool.and_eq_true] at hB
    obtain ⟨⟨hr, hf⟩, hB'⟩ := hB
    have hcl' : Closed .any ops (listedTo ops (k + 1)) := hcl.set (by simpa using hr)
    have hl' : ∀ j, l[j]? = ops[k + 1 + j]? := fun j => by have := hl (j + 1); simpa [Nat.add_assoc, Nat.add_comm 1 j] using this
    have sole : soleB ops k = true → Region.ready .any ops (listedTo ops k) = [k] := fun hsole => by simpa [soleB] using hsole
    rcases h with ⟨v, hy, hK⟩ | ⟨hsole, hK⟩ | ⟨hsole, hlast, hend, hK⟩ | ⟨hsole, hcut, hK⟩
    · exact wpAnyL_first h0 (Region.noSelect_spec hs) l.length _ W a (Region.free_spec h0 hf) hcl (by simpa using hr) hy (wpL_lex hs l (k + 1) W _ hl' hcl' hB' hK)
    · have hsole' := sole hsole
      refine ⟨fun h => (by rw [h] at hsole'; cases hsole'), fun i hi w hw => ?_⟩
      have hik : i = k := by rw [hsole'] at hi; simpa using hi
      subst hik
      exact wpOp_mono (fun a' w' h3 => .inl ⟨h3.1, wpL_lex hs l (i + 1) w' a' hl' hcl' hB' h3.2⟩) (hK w hw)
    · have hsole' := sole hsole
      refine ⟨fun h => (by rw [h] at hsole'; cases hsole'), fun i hi w hw => ?_⟩
      have hik : i = k := by rw [hsole'] at hi; simpa using hi
      subst hik
      exact wpOp_mono (fun a' w' h3 => .inr (.inl ⟨hlast, hend, h3⟩)) (hK w hw)
    · have hsole' := sole hsole
      refine ⟨fun h => (by rw [h] at hsole'; cases hsole'), fun i hi w hw => ?_⟩
      have hik : i = k := by rw [hsole'] at hi; simpa using hi
      subst hik
      exact wpOp_mono (fun a' w' h3 => .inr (.inr ⟨hcut, h3.1, wpL_lex hs l (i + 1) w' a' hl' hcl' hB' h3.2⟩)) (hK w hw)

set_option maxRecDepth 100000 in
theorem wp_region_L {id : Nat} {Q : Exit → Act → World → Prop} {a : Act} {w : World} {l : List Oper} (hm : P.follows .mixedOrders = true) (hB : Region.lexB .any l.toArray = true)
    (h : wpL P l.toArray H late (fun a' w' => Q .normal a' w') l 0 w a) : (Code.region id l.toArray true).wp P Q a w := by
  simp only [Region.lexB, Bool.and_eq_true] at hB
  have h0 : wpL P l.toArray H late (fun a' w' => Q .normal a' w') l 0 w.drew a := by
    have key : ∀ (l' : List Oper) (k : Nat) (a : Act), wpL P l.toArray H late (fun a' w' => Q .normal a' w') l' k w a → wpL P l.toArray H late (fun a' w' => Q .normal a' w') l' k w.drew a := by
      intro l'
      induction l' with
      | nil => intro k a h w' hw'; exact h w' (((Ext.refl w).drew).trans hw')
      | cons o l' ih =>
        intro k a h
        rcases h with ⟨v, hy, hK⟩ | ⟨hs, hK⟩ | ⟨hs, h1, h2, hK⟩ | ⟨hs, h1, hK⟩
        · exact .inl ⟨v, hy.ext ((Ext.refl w).drew), ih _ _ hK⟩
        · exact .inr (.inl ⟨hs, fun w' hw' => hK w' (((Ext.refl w).drew).trans hw')⟩)
        · exact .inr (.inr (.inl ⟨hs, h1, h2, fun w' hw' => hK w' (((Ext.refl w).drew).trans hw')⟩))
        · exact .inr (.inr (.inr ⟨hs, h1, fun w' hw' => hK w' (((Ext.refl w).drew).trans hw')⟩))
    exact key l 0 a h
  have h1 := wpL_lex (P := P) (Q := fun a' w' => Q .normal a' w') hB.1 l 0 w.drew a (by simp) (Closed.start _ _ _) (by simpa [listedTo] using hB.2) h0
  exact wp_region_any hm (wpAny_of_L (fun _ _ h => h) _ _ _ _ (by simpa [listedTo] using h1))

set_option maxRecDepth 100000 in
/-- One operation at a time: a quiet one (or one whose guard says no). -/
theorem wpL_stepQ {Q : Act → World → Prop} {o : Oper} {rest : List Oper} {k : Nat} {W : World} {a : Act} (hl : late.contains k = false)
    (h : ∀ K : Act → Prop, (∀ a, wpL P ops H late Q rest (k + 1) W a → K a) → if Region.wanted o (yielded ops a.tmps) then ∃ v, QX P W o a v ∧ K (a.put o.dst v) else K (a.put o.dst undef)) : wpL P ops H late Q (o :: rest) k W a := by
  have h1 := h _ (fun _ h => h)
  by_cases hw : Region.wanted o (yielded ops a.tmps) = true
  · simp only [hw, if_true] at h1
    obtain ⟨v, hq, hK⟩ := h1
    exact .inl ⟨v, ⟨.inl ⟨hw, hq⟩, fun h => by rw [hl] at h; cases h⟩, hK⟩
  · simp only [hw] at h1
    have hw' : Region.wanted o (yielded ops a.tmps) = false := by simpa using hw
    exact .inl ⟨undef, ⟨.inr ⟨hw', rfl⟩, fun h => by rw [hl] at h; cases h⟩, h1⟩

set_option maxRecDepth 100000 in
/-- .. a quiet one that may come late: it reads below H alone. -/
theorem wpL_stepQL {Q : Act → World → Prop} {o : Oper} {rest : List Oper} {k : Nat} {W : World} {a : Act} (v : Value) (hg : o.guard = none) (hq : QL P H W o a v)
    (h : ∀ K : Act → Prop, (∀ a, wpL P ops H late Q rest (k + 1) W a → K a) → K (a.put o.dst v)) : wpL P ops H late Q (o :: rest) k W a := by
  have hw : Region.wanted o (yielded ops a.tmps) = true := by simp [Region.wanted, hg]
  have hy : YL P ops H W o v a := .inl ⟨hw, hq⟩
  exact .inl ⟨v, ⟨hy.yx, fun _ => hy⟩, h _ (fun _ h => h)⟩

set_option maxRecDepth 100000 in
/-- .. one that alone is ready. -/
theorem wpL_stepS {Q : Act → World → Prop} {o : Oper} {rest : List Oper} {k : Nat} {W : World} {a : Act} (ho : ops[k]? = some o) (hs : soleB ops k = true)
    (h : ∀ K : World → Act → Prop, (∀ W a, wpL P ops H late Q rest (k + 1) W a → K W a) → ∀ w, Ext W w →
      if Region.wanted o (yielded ops a.tmps) then o.wp P a w (fun a' w' => Ext w w' ∧ K w' a') NoExit else K w (a.put o.dst undef)) : wpL P ops H late Q (o :: rest) k W a := by
  refine .inr (.inl ⟨hs, fun w hw' => ?_⟩)
  have h1 := h _ (fun _ _ h => h) w hw'
  unfold wpOp
  simp only [ho]
  by_cases hw : Region.wanted o (yielded ops a.tmps) = true
  · simp only [hw, if_true] at h1 ⊢
    exact .inl h1
  · simp only [hw] at h1 ⊢
    exact ⟨Ext.refl _, h1⟩

set_option maxRecDepth 100000 in
/-- .. the last one, which may do anything. -/
theorem wpL_stepL {Q : Act → World → Prop} {o : Oper} {rest : List Oper} {k : Nat} {W : World} {a : Act} (ho : ops[k]? = some o) (hs : soleB ops k = true) (hl : lastB .any ops k = true)
    (he : (Region.ready .any ops (listedTo ops (k + 1))).isEmpty = true)
    (h : ∀ K : Act → World → Prop, (∀ a w, Q a w → K a w) → ∀ w, Ext W w → if Region.wanted o (yielded ops a.tmps) then o.wp P a w K NoExit else K (a.put o.dst undef) w) : wpL P ops H late Q (o :: rest) k W a := by
  refine .inr (.inr (.inl ⟨hs, hl, List.isEmpty_iff.1 he, fun w hw' => ?_⟩))
  have h1 := h _ (fun _ _ h => h) w hw'
  unfold wpOp
  simp only [ho]
  by_cases hw : Region.wanted o (yielded ops a.tmps) = true
  · simp only [hw, if_true] at h1 ⊢
    exact .inl h1
  · simp only [hw] at h1 ⊢
    exact h1

set_option maxRecDepth 100000 in
/-- .. one that stands before or behind every other one, and may do anything. -/
theorem wpL_stepC {Q : Act → World → Prop} {o : Oper} {rest : List Oper} {k : Nat} {W : World} {a : Act} (ho : ops[k]? = some o) (hs : (soleB ops k && cutLB .any ops late k) = true)
    (h : ∀ K : World → Act → Prop, (∀ W a, wpL P ops H late Q rest (k + 1) W a → K W a) → ∀ w, Ext W w →
      if Region.wanted o (yielded ops a.tmps) then o.wp P a w (fun a' w' => Low H w w' ∧ K w' a') NoExit else K w (a.put o.dst undef)) : wpL P ops H late Q (o :: rest) k W a := by
  rw [Bool.and_eq_true] at hs
  refine .inr (.inr (.inr ⟨hs.1, hs.2, fun w hw' => ?_⟩))
  have h1 := h _ (fun _ _ h => h) w hw'
  unfold wpOp
  simp only [ho]
  by_cases hw : Region.wanted o (yielded ops a.tmps) = true
  · simp only [hw, if_true] at h1 ⊢
    exact .inl h1
  · simp only [hw] at h1 ⊢
    exact ⟨Low.refl _ _, h1⟩

set_option maxRecDepth 100000 in
theorem wpL_nil {Q : Act → World → Prop} {k : Nat} {W : World} {a : Act} (h : ∀ w, Ext W w → Q a w) : wpL P ops H late Q [] k W a := h
end

set_option maxRecDepth 100000 in
theorem BlkF.setCells {g n : Nat} : ∀ (cs : List Value) (w : World) (f : Nat → Value) (o : Nat), BlkF w g n f → o + cs.length ≤ n →
    BlkF (w.setCells g o cs) g n (fun x => if o ≤ x ∧ x < o + cs.length then cs.getD (x - o) undef else f x)
  | [], w, f, o, h, _ => by
    refine BlkF.congr (f := f) h (fun x _ => ?_)
    have h0 : ¬ (o ≤ x ∧ x < o + ([] : List Value).length) := by simp only [List.length_nil]; omega
    rw [if_neg h0]
  | c :: cs, w, f, o, h, ho => by
    simp only [List.length_cons] at ho
    have h1 := BlkF.setCells cs _ _ (o + 1) (h.set o (by omega) c) (by omega)
    refine BlkF.congr (w := w.setCells g o (c :: cs)) h1 (fun x hx => ?_)
    simp only [List.length_cons]
    by_cases e : x = o
    · subst e
      have e1 : ¬ (x + 1 ≤ x ∧ x < x + 1 + cs.length) := by omega
      have e2 : x ≤ x ∧ x < x + (cs.length + 1) := by omega
      rw [if_neg e1, if_pos rfl, if_pos e2, Nat.sub_self]
      rfl
    · by_cases e2 : o + 1 ≤ x ∧ x < o + 1 + cs.length
      · have e3 : o ≤ x ∧ x < o + (cs.length + 1) := by omega
        rw [if_pos e2, if_pos e3]
        obtain ⟨k, hk⟩ : ∃ k, x - o = k + 1 := ⟨x - o - 1, by omega⟩
        rw [hk, show x - (o + 1) = k by omega]
        simp
      · have e3 : ¬ (o ≤ x ∧ x < o + (cs.length + 1)) := by omega
        rw [if_neg e2, if_neg e3, if_neg e]
set_option maxRecDepth 100000 in
theorem Ext.setCells {W : World} {g : Nat} (hg : W.heap.size ≤ g) : ∀ (cs : List Value) (w : World) (o : Nat), Ext W w → Ext W (w.setCells g o cs)
  | [], _, _, h => h
  | c :: cs, _, o, h => Ext.setCells hg cs _ (o + 1) (h.setCell hg c)

set_option maxRecDepth 100000 in
theorem run_copyB (w : World) (ty : TypeId) (g n o dLen dCap : Nat) (f : Nat → Value) (hB : BlkF w g n f) (a : Addr) (sLen sCap : Nat) (v : Int) (m : Nat) (hm : m = Nat.min sLen dLen) (ho : o + m ≤ n)
    (hsrc : ∀ j, j < m → w.cell? (a.add j) = some (.int .i64 v)) :
    (Builtin.copy_ #[28, 28] ty #[.slice (some ⟨g, o, none⟩) dLen dCap, .slice (some a) sLen sCap]).run Tryz.prog w = .ok (goInt m) (w.setCells g o (List.replicate m (.int .i64 v))) := by
  obtain ⟨i0, hi, hz0, hz1, hz2⟩ := info_parts info_int
  have h := run_copy_cells (P := Tryz.prog) w 28 28 ty 3 g o dLen dCap a sLen sCap (List.replicate m (.int .i64 v)) Tryz.underlying28 (by rw [hi]; simp [hz1]) (by simp [hm])
    (fun j u hj => by
      rw [List.getElem?_replicate] at hj
      split at hj
      · injection hj with hj; rw [← hj]; exact hsrc j (by assumption)
      · cases hj)
    (fun j hj => by rw [List.length_replicate] at hj; rw [hB.cell _ (by omega)]; rfl)
    (fun j _ => hB.fr _)
    (fun u hu => by rw [List.eq_of_mem_replicate hu]; rfl)
  rw [List.length_replicate] at h
  exact h
set_option maxRecDepth 100000 in
theorem oper_copyB {o : Oper} {a : Act} {w : World} {K : World → Act → Prop} (d s : Operand)
    (ho : o.op = .call { callee := .builtin .copy, args := #[d, s], argTypes := #[28, 28] }) (g n off dLen dCap : Nat) (f : Nat → Value) (hB : BlkF w g n f) (ad : Addr) (sLen sCap : Nat) (v : Int) (m : Nat)
    (hd : a.eval d = .slice (some ⟨g, off, none⟩) dLen dCap) (hs : a.eval s = .slice (some ad) sLen sCap) (hm : m = Nat.min sLen dLen) (hoff : off + m ≤ n)
    (hsrc : ∀ j, j < m → w.cell? (ad.add j) = some (.int .i64 v))
    (h : K (w.setCells g off (List.replicate m (.int .i64 v))) (a.put o.dst (.int .i64 (m : Int)))) : o.wp Tryz.prog a w (fun a' w' => K w' a') NoExit := by
  have hrun := run_copyB w o.type g n off dLen dCap f hB ad sLen sCap v m hm hoff hsrc
  unfold Oper.wp
  simp [execOp, ho, resolve, invoke, builtin, hd, hs, hrun, Result.andThen]
  exact h

set_option maxRecDepth 100000 in
set_option maxHeartbeats 4000000 in
theorem mul_small (w : World) (n : Int) (h1 : 1 ≤ n) (h5 : n ≤ 5) :
    Calls Tryz.prog 107 #[.int .u64 1, .int .u64 n] w fun e w' => e = .returned (.tuple #[.int .u64 0, .int .u64 n]) ∧ Ext w w' := by
  have : n = 1 ∨ n = 2 ∨ n = 3 ∨ n = 4 ∨ n = 5 := by omega
  rcases this with rfl | rfl | rfl | rfl | rfl
  all_goals
    go_enter Tryz.func107, Tryz.ntmps107
    go_wp2
    refine bodyPost_ret (results_tmp2 Tryz.results107 _ _ _) rfl ⟨?_, Ext.refl _⟩
    kernel_rfl

set_option maxRecDepth 100000 in
set_option maxHeartbeats 4000000 in
theorem rep_impl (w : World) (b off c : Nat) (v : Int) (n : Nat) (h1 : 1 ≤ n) (h5 : n ≤ 5) (hc : w.cell? ⟨b, off, none⟩ = some (.int .i64 v)) :
    Calls Tryz.prog 75 #[.slice (some ⟨b, off, none⟩) 1 c, .int .i64 n] w fun e w' => ∃ g, e = .returned (.slice (some ⟨g, 0, none⟩) n n) ∧ w.heap.size ≤ g ∧ BlkF w' g n (fun _ => .int .i64 v) ∧ Ext w w' := by
  obtain ⟨i0, hi, hz0, hz1, hz2⟩ := info_parts info_int
  have hmk := fun W => run_make_rowN (P := Tryz.prog) 28 3 i0 _ Tryz.underlying28 hi hz0 .i64 .i64 n n (Nat.le_refl _) (by rw [hz2]; omega) (by omega) W
  rw [hz1, Nat.mul_one] at hmk
  go_enter Tryz.func75, Tryz.ntmps75
  go_wp2_with (go_at_call 107; refine (mul_small _ _ (by omega) (by omega)).mono ?_; rintro e w1 ⟨rfl, hw1⟩)
  have hB0 := BlkF.new w1 (madeCells #[.int .i64 0] n) 3
  rw [size_madeCells] at hB0
  have hE0 := Ext.new w1 (.cells (madeCells #[.int .i64 0] n) 3)
  rw [run_copyB _ _ w1.heap.size n 0 n n _ hB0 ⟨b, off, none⟩ 1 c v 1 (by show 1 = min 1 n; omega) (by omega) (fun j hj => by
    obtain rfl : j = 0 := by omega
    exact hE0.keep (hw1.keep (by simpa [Addr.add] using hc)))]
  have hB1 := BlkF.setCells (List.replicate 1 (.int .i64 v)) _ _ 0 hB0 (by simp; omega)
  have hE1 := Ext.setCells (Nat.le_refl w1.heap.size) (List.replicate 1 (.int .i64 v)) _ 0 hE0
  obtain ⟨W0, hW0⟩ : ∃ W0 : World, W0 = (w1.alloc (.cells (madeCells #[.int .i64 0] n) 3)).setCells w1.heap.size 0 (List.replicate 1 (.int .i64 v)) := ⟨_, rfl⟩
  rw [← hW0] at hB1 hE1 ⊢
  clear hW0 hB0 hE0 hmk
  have hw : Ext w w1 := hw1
  have hB2 := hB1.congr (f' := fun x => if x < 1 then .int .i64 v else .int .i64 0) (fun x hx => by
    by_cases e : x = 0
    · subst e; simp
    · have e1 : ¬ (0 ≤ x ∧ x < 0 + (List.replicate 1 (Value.int .i64 v)).length) := by simp; omega
      have e2 : ¬ x < 1 := by omega
      rw [if_neg e1, if_neg e2]
      exact made_int n x hx)
  clear hB1
  obtain ⟨wb, hwb⟩ : ∃ wb : World, wb = w1 := ⟨_, rfl⟩
  subst hwb
  go_wp2
  go_loopw [8] (fun i wr => ∃ k : Nat, 1 ≤ k ∧ k ≤ n ∧ i = .int .i64 k ∧ BlkF wr wb.heap.size n (fun x => if x < k then .int .i64 v else .int .i64 0) ∧ Ext wb wr) (fun i _ => n - (intOf i).toNat)
  case atStart => exact ⟨1, Nat.le_refl _, h1, rfl, hB2, hE1⟩
  case round =>
    clear hB2 hE1
    obtain ⟨k, hk1, hk, rfl, hB, hwr⟩ := hrel
    by_cases hlt : k < n
    · have hne : ¬ n = k := by omega
      obtain ⟨m, hm⟩ : ∃ m : Nat, m = min k (n - k) := ⟨_, rfl⟩
      have hm1 : 1 ≤ m := by omega
      have hm2 : k + m ≤ n := by omega
      have hm3 : m ≤ k := by omega
      have y1 : wrap64 ((k : Int) + (m : Int)) = ((k + m : Nat) : Int) := by rw [IntWalk.wrap64_in _ (by omega)]; omega
      have y2 : IntKind.i64.wrap ((k : Int) + (m : Int)) = ((k + m : Nat) : Int) := by rw [IntWalk.i64_left]; exact y1
      have HM := hide hm
      clear hm
      go_wp2
      refine wp_region_X (by kernel_rfl) (by kernel_rfl) ?_
      repeat' (refine wpX_stepQ (fun K hK => ?_)
               go_simp
               try (rw [if_neg (by intro h; simp [undef] at h)])
               try split
               all_goals
                 first
                 | (refine hK _ ?_
                    clear hK K)
                 | (apply Exists.intro
                    refine ⟨fun wq hwq => ?_, hK _ ?_⟩
                    · have hcq := hwq.cellS
                      go_simp
                      first
                      | exact ⟨Ext.refl _, rfl⟩
                    clear hK K))
      refine wpX_stepC rfl (by kernel_rfl) (fun K hK wa hwa => ?_)
      refine Eq.mpr (if_pos rfl) ?_
      have hBa := hB.ext hwa
      refine oper_copyB _ _ rfl wb.heap.size n k (n - k) (n - k) _ hBa ⟨wb.heap.size, 0, none⟩ k n v m rfl rfl HM.out hm2 (fun j hj => ?_) ?_
      · have e1 : Addr.add ⟨wb.heap.size, 0, none⟩ j = ⟨wb.heap.size, j, none⟩ := by unfold Addr.add; split <;> simp_all
        rw [e1, hBa.cell j (by omega), if_pos (by omega)]
      refine hK _ _ ?_
      clear hK K
      have hBc := BlkF.setCells (List.replicate m (.int .i64 v)) _ _ k hBa (by simp; omega)
      have hEc := Ext.setCells (Nat.le_refl wb.heap.size) (List.replicate m (.int .i64 v)) _ k (hwr.trans hwa)
      have hBd := hBc.congr (f' := fun x => if x < k + m then .int .i64 v else .int .i64 0) (fun x hx => by
        rw [List.length_replicate]
        by_cases e1 : k ≤ x ∧ x < k + m
        · rw [if_pos e1, if_pos (by omega), List.getD_eq_getElem?_getD, List.getElem?_replicate, if_pos (by omega)]; rfl
        · rw [if_neg e1]
          by_cases e2 : x < k
          · rw [if_pos e2, if_pos (by omega)]
          · rw [if_neg e2, if_neg (by omega)])
      clear hBc hBa
      generalize wa.setCells wb.heap.size k (List.replicate m (.int .i64 v)) = W1 at hBd hEc ⊢
      repeat' (refine wpX_stepQ (fun K hK => ?_)
               go_simp
               try (rw [if_neg (by intro h; simp [undef] at h)])
               try split
               all_goals
                 first
                 | (refine hK _ ?_
                    clear hK K)
                 | (apply Exists.intro
                    refine ⟨fun wq hwq => ?_, hK _ ?_⟩
                    · have hcq := hwq.cellS
                      go_simp
                      first
                      | exact ⟨Ext.refl _, rfl⟩
                    clear hK K))
      refine wpX_nil (fun wz hwz => ?_)
      go_wp2
      exact ⟨⟨k + m, by omega, by omega, rfl, hBd.ext hwz, hEc.trans hwz⟩, by simp [intOf]; omega⟩
    · have hkn : k = n := by omega
      go_wp2
      go_ret
      exact ⟨_, rfl, hw.size, hB.congr (fun x hx => by rw [if_pos (by omega)]), hw.trans hwr⟩

end Go.Proofs.YtfmeklgdaabooaaGreatDoor
