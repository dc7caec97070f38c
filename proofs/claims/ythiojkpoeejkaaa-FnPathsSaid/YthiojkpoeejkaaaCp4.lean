/- Lists of lists built by appends. Appends that say where the new list lies: in its old block, or in a new one. The source of numbers that a code is. The library's searches over integers with a function. Who prefers whom: places, preferences, weights of voters, margins. -/
import Derived.Test.YthiojkpoeejkaaaCp3
import Derived.Test.YthiojkpoeejkaaaCp1
import Derived.Test.YthiojkpoeejkaaaCp2
namespace Go.Proofs.Ythiojkpoeejkaaa
open Go.RowKit

set_option maxRecDepth 100000 in
theorem info_row : (Try.prog.info? 29).map (fun i => (i.zero, i.size, i.bytes)) = some (some (.slice none 0 0), 1, 24) := by kernel_rfl
/-- v is a list of lists of the call's own, grown by appends. -/
def OwnSS (w : World) (B : Nat) (v : Value) (xss : List (List Int)) : Prop := ∃ cs : List Value, w.ownsRow B 29 1 v cs.length cs ∧ cs.length = xss.length ∧
  (∀ (j : Nat) (xs : List Int), xss[j]? = some xs → ∃ u, cs[j]? = some u ∧ OwnI w B u xs) ∧ (∀ (i j : Nat) (u u' : Value) (k : Nat), i ≠ j → cs[i]? = some u → cs[j]? = some u' → u.ownBlock = some k → u'.ownBlock ≠ some k)
set_option maxRecDepth 100000 in
theorem OwnSS.nil (w : World) (B : Nat) : OwnSS w B (.slice none 0 0) [] := ⟨[], World.ownsRow_nil _ _ _ _, rfl, fun j xs h => by simp at h, fun i j u u' k _ h => by simp at h⟩
set_option maxRecDepth 100000 in
theorem OwnSS.made0 (w : World) : OwnSS (w.alloc (.cells #[] 29)) w.heap.size (.slice (some ⟨w.heap.size, 0, none⟩) 0 0) [] :=
  ⟨[], ⟨rfl, .inr ⟨w.heap.size, 0, #[], rfl, Nat.le_refl _, heap_alloc_new _ _, Nat.le_refl _, by simp, rfl, rfl⟩⟩, rfl, fun j xs h => by simp at h, fun i j u u' k _ h => by simp at h⟩
set_option maxRecDepth 100000 in
theorem OwnSS.ext {w w' : World} {B : Nat} {v : Value} {xss : List (List Int)} (h : OwnSS w B v xss) (hw : Ext w w') : OwnSS w' B v xss := by
  obtain ⟨cs, h1, h2, h3, h4⟩ := h
  refine ⟨cs, ownsRow_ext h1 hw, h2, fun j xs hx => ?_, h4⟩
  obtain ⟨u, hu, ho⟩ := h3 j xs hx
  exact ⟨u, hu, ho.ext hw⟩
set_option maxRecDepth 100000 in
theorem OwnSS.base {w : World} {B B' : Nat} {v : Value} {xss : List (List Int)} (h : OwnSS w B v xss) (hb : B' ≤ B) : OwnSS w B' v xss := by
  obtain ⟨cs, h1, h2, h3, h4⟩ := h
  refine ⟨cs, ownsRow_base h1 hb, h2, fun j xs hx => ?_, h4⟩
  obtain ⟨u, hu, ho⟩ := h3 j xs hx
  exact ⟨u, hu, ho.base hb⟩
set_option maxRecDepth 100000 in
theorem own_ne {w : World} {B B' n : Nat} {u v : Value} {xs : List Int} {cs : List Value} (h : OwnI w B u xs) (h' : w.ownsRow B' 29 1 v n cs) : ∀ k, u.ownBlock = some k → v.ownBlock ≠ some k := by
  intro k hk hv
  obtain ⟨_, h⟩ := h
  obtain ⟨_, h'⟩ := h'
  rcases h with ⟨rfl, _⟩ | ⟨g, cap, cur, rfl, _, hh, _⟩
  · cases hk
  · rcases h' with ⟨rfl, _⟩ | ⟨g', cap', cur', rfl, _, hh', _⟩
    · cases hv
    · simp only [Value.ownBlock, Option.some.injEq] at hk hv
      subst hk
      subst hv
      rw [hh] at hh'
      injection hh' with hh'
      injection hh' with _ hh' _
      exact absurd hh' (by decide)
set_option maxRecDepth 100000 in
theorem own_ne' {w : World} {B B' n : Nat} {u v : Value} {xs : List Int} {cs : List Value} (h : OwnI w B u xs) (h' : w.ownsRow B' 29 1 v n cs) : u.ownBlock = none ∨ u.ownBlock ≠ v.ownBlock := by
  cases hu : u.ownBlock with
  | none => exact .inl rfl
  | some k => exact .inr (fun e => own_ne h h' k hu e.symm)
set_option maxRecDepth 100000 in
theorem OwnI.form {w : World} {B : Nat} {u : Value} {xs : List Int} (h : OwnI w B u xs) : ∃ a n c, u = .slice a n c := by
  obtain ⟨a, c, rfl, _⟩ := h.val
  exact ⟨_, _, _, rfl⟩
set_option maxRecDepth 100000 in
theorem OwnI.slice {w : World} {B : Nat} {u : Value} {xs : List Int} (h : OwnI w B u xs) : u.oneCell' = true := by
  obtain ⟨a, c, rfl, _⟩ := h.val
  rfl

set_option maxRecDepth 100000 in
theorem OwnSS.wr {w : World} {B : Nat} {v : Value} {xss : List (List Int)} (h : OwnSS w B v xss) : WrSS w B v xss := by
  obtain ⟨cs, h1, h2, h3, h4⟩ := h
  have h0 := h1
  obtain ⟨_, h5⟩ := h1
  rcases h5 with ⟨rfl, h5⟩ | ⟨g, cap, cur, rfl, hg, hh, hc, hm, hs, ht⟩
  · have : xss = [] := List.length_eq_zero_iff.1 (by omega)
    subst this
    exact WrSS.nil _ _ _ _
  · rw [h2]
    rw [h2] at h0
    have hl : g < w.heap.size := (World.ownsRow.lt h0 g rfl).2
    have hrow : ∀ o, o < xss.length → ∃ u, cs[o]? = some u ∧ OwnI w B u (xss.getD o []) := fun o ho => by
      obtain ⟨xs, hx⟩ := at_of_lt ho
      obtain ⟨u, hu, hO⟩ := h3 o xs hx
      exact ⟨u, hu, by simpa [List.getD, hx] using hO⟩
    have hcs : ∀ o u, cs[o]? = some u → cs.getD o undef = u := fun o u hu => by simp [List.getD, hu]
    refine ⟨some ⟨g, 0, none⟩, cap, rfl, by omega, fun _ => ⟨g, fun o => cs.getD o undef, rfl, hg, ⟨hl, fun o => World.ownsRow.frozenAt h0 o, fun o ho => ?_⟩, fun o ho => ?_, fun o ho => ?_, fun o o' k ho ho' hne hk => ?_⟩⟩
    · rw [World.ownsRow.cellAt h0 o (by omega)]
      obtain ⟨u, hu, _⟩ := hrow o ho
      rw [hu, hcs o u hu]
    · obtain ⟨u, hu, hO⟩ := hrow o ho
      show OwnI w B (cs.getD o undef) _
      rw [hcs o u hu]; exact hO
    · obtain ⟨u, hu, hO⟩ := hrow o ho
      show (cs.getD o undef).ownBlock ≠ _
      rw [hcs o u hu]
      exact fun e => own_ne hO h0 g e rfl
    · obtain ⟨u, hu, _⟩ := hrow o ho
      obtain ⟨u', hu', _⟩ := hrow o' ho'
      show (cs.getD o' undef).ownBlock ≠ _
      rw [hcs o' u' hu']
      have hk' : (cs.getD o undef).ownBlock = some k := hk
      rw [hcs o u hu] at hk'
      exact h4 o o' u u' k hne hu hu' hk'

set_option maxRecDepth 100000 in
theorem wpList_appS {ops : Array Oper} {rest : List Oper} {o : Oper} {a : Act} {Q : Exit → Act → World → Prop} (W0 w0 w3 : World) (hgd : o.guard = none) (s x : Operand)
    (ho : o.op = .call { callee := .builtin .append, args := #[s, x], argTypes := #[55, 55] }) (v : Value) (xss : List (List Int)) (u : Value) (xs : List Int) (hs : a.eval s = v)
    (hown : OwnSS w0 W0.heap.size v xss) (hW0 : Ext W0 w0) (hw : Ext w0 w3) (hu : OwnI w3 w0.heap.size u xs)
    (hx : a.eval x = .slice (some ⟨w3.heap.size, 0, none⟩) 1 1) (hlen : xss.length ≤ 2000000)
    (h : ∀ v' w', OwnSS w' W0.heap.size v' (xss ++ [xs]) → Ext W0 w' → wpList Try.prog ops Q rest (a.put o.dst v') w') : wpList Try.prog ops Q (o :: rest) a (w3.alloc (.cells #[u] 29)) := by
  obtain ⟨i0, hi, hz0, hz1, hz2⟩ := info_parts info_row
  obtain ⟨cs, h1, h2, h3, h4⟩ := hown
  have h1a := ownsRow_ext h1 (hw.alloc (.cells #[u] 29))
  have hW3 : Ext W0 (w3.alloc (.cells #[u] 29)) := (hW0.trans hw).alloc _
  refine wpList_append_own _ hgd s x 55 ho W0.heap.size 29 i0 (.slice none 0 0) 1 24 Try.underlying55 hi hz0 hz1 hz2 rfl (by decide) v cs.length _ hs h1a ⟨w3.heap.size, 0, none⟩ 1 1 [u] hx rfl ?_ ?_ ?_ ?_ hW3.size ?_
  · intro j z hj
    match j, hj with
    | 0, hj => simp at hj; subst hj; simp [Addr.add]
  · intro z hz; simp at hz; subst hz; exact hu.slice
  · unfold maxLen; omega
  · omega
  · intro v' w' h5 h6 _
    have huw := hu.ext (Ext.new w3 (.cells #[u] 29))
    refine h v' w' ⟨cs ++ [u], by simpa using h5, by simp [h2], fun j ys hy => ?_, fun i j z z' k hne hz hz' hk => ?_⟩ (hW3.grown h6 (ownsRow_block h1a))
    · rcases Nat.lt_or_ge j xss.length with hlt | hge
      · rw [List.getElem?_append_left hlt] at hy
        obtain ⟨z, hz, hO⟩ := h3 j ys hy
        refine ⟨z, by rw [List.getElem?_append_left (by omega)]; exact hz, ?_⟩
        have hO' := hO.ext (hw.alloc (.cells #[u] 29))
        exact hO'.keepRow h6 (own_ne' hO' h1a)
      · rw [List.getElem?_append_right hge] at hy
        have hj : j - xss.length = 0 := by have := lt_of_at hy; simp at this; omega
        rw [hj] at hy
        simp at hy
        subst hy
        refine ⟨u, by rw [List.getElem?_append_right (by omega), h2, hj]; rfl, ?_⟩
        exact (huw.keepRow h6 (own_ne' huw h1a)).base hW0.size
    · have low : ∀ (i : Nat) (z : Value) (k : Nat), cs[i]? = some z → z.ownBlock = some k → k < w0.heap.size := fun i z k hz hk => by
        obtain ⟨ys, hy⟩ := at_of_lt (xs := xss) (k := i) (by have := lt_of_at hz; omega)
        obtain ⟨z', hz', hO⟩ := h3 i ys hy
        rw [hz] at hz'
        injection hz' with hz'
        subst hz'
        exact (World.ownsRow.lt hO k hk).2
      have new : ∀ k, u.ownBlock = some k → w0.heap.size ≤ k := fun k hk => (World.ownsRow.lt hu k hk).1
      rcases Nat.lt_or_ge i cs.length with hil | hil
      · rw [List.getElem?_append_left hil] at hz
        rcases Nat.lt_or_ge j cs.length with hjl | hjl
        · rw [List.getElem?_append_left hjl] at hz'
          exact h4 i j z z' k hne hz hz' hk
        · rw [List.getElem?_append_right hjl] at hz'
          have hj : j - cs.length = 0 := by have := lt_of_at hz'; simp at this; omega
          rw [hj] at hz'
          simp at hz'
          subst hz'
          intro e
          have := low i z k hz hk
          have := new k e
          omega
      · rw [List.getElem?_append_right hil] at hz
        have hi0 : i - cs.length = 0 := by have := lt_of_at hz; simp at this; omega
        rw [hi0] at hz
        simp at hz
        subst hz
        rcases Nat.lt_or_ge j cs.length with hjl | hjl
        · rw [List.getElem?_append_left hjl] at hz'
          intro e
          have := low j z' k hz' e
          have := new k hk
          omega
        · rw [List.getElem?_append_right hjl] at hz'
          have hj0 : j - cs.length = 0 := by have := lt_of_at hz'; simp at this; omega
          omega

set_option maxRecDepth 100000 in
/-- One integer appended inside a drawn region, to a list anywhere. -/
theorem oper_appB {o : Oper} {a : Act} {K : World → Act → Prop} (B : Nat) (w3 : World) (hgd : o.guard = none) (s x : Operand)
    (ho : o.op = .call { callee := .builtin .append, args := #[s, x], argTypes := #[29, 29] }) (v : Value) (xs : List Int) (y : Int) (gx : Nat) (hs : a.eval s = v) (hown : OwnI w3 B v xs) (hW : B ≤ w3.heap.size)
    (hx : a.eval x = .slice (some ⟨gx, 0, none⟩) 1 1) (hc : w3.cell? ⟨gx, 0, none⟩ = some (.int .i64 y)) (hlen : xs.length ≤ 2000000)
    (h : ∀ v' w', OwnI w' B v' (xs ++ [y]) → w3.grownBy w' v.ownBlock → K w' (a.put o.dst v')) : o.wp Try.prog a w3 (fun a' w' => K w' a') NoExit := by
  obtain ⟨i0, hi, hz0, hz1, hz2⟩ := info_parts info_int
  have h1 : wpList Try.prog #[] (fun e a w => e = .normal ∧ K w a) [o] a w3 := by
    refine wpList_append_own _ hgd s x 29 ho B 3 i0 (.int .i64 0) 1 8 Try.underlying29 hi hz0 hz1 hz2 rfl (by decide) v xs.length _ hs hown ⟨gx, 0, none⟩ 1 1 [.int .i64 y] hx rfl ?_ ?_ ?_ ?_ hW ?_
    · intro j u hj
      match j, hj with
      | 0, hj => simp at hj; subst hj; simpa [Addr.add] using hc
    · intro u hu; simp at hu; subst hu; rfl
    · unfold maxLen; omega
    · omega
    · intro v' w' h1 h2 _
      refine ⟨rfl, h v' w' ?_ h2⟩
      unfold OwnI
      simpa using h1
  unfold wpList at h1
  split at h1
  · rcases h1 with h1 | ⟨_, _, _, h1, _⟩
    · exact oper_no h1
    · cases h1
  · rename_i hw
    exact absurd (by simp [Region.wanted, hgd]) hw

set_option maxRecDepth 100000 in
theorem grown_ext {w w' w'' : World} {row : Option Nat} (h : w.grownBy w' row) (k : Ext w' w'') : w.grownBy w'' row :=
  ⟨k.os.trans h.os, k.tape.trans h.tape, k.output.trans h.output, Nat.le_trans h.size k.size, fun i hi hne => (Below.block k i (Nat.lt_of_lt_of_le hi h.size)).trans (h.block i hi hne)⟩

/-- A matrix whose row k is being filled by appends, its cells from H on. -/
structure MatK (w : World) (B H g n k : Nat) (us : Nat → Value) (rows : Nat → List Int) : Prop where
  mat : Mat w B g n us rows
  cur : OwnI w H (us k) (rows k)
  low : B ≤ H
  size : H ≤ w.heap.size
  gH : g < H
  oth : ∀ o b, o < n → o ≠ k → (us o).ownBlock = some b → b < H
set_option maxRecDepth 100000 in
theorem MatK.ext {w w' : World} {B H g n k : Nat} {us : Nat → Value} {rows : Nat → List Int} (h : MatK w B H g n k us rows) (hw : Ext w w') : MatK w' B H g n k us rows :=
  ⟨h.mat.ext hw, h.cur.ext hw, h.low, Nat.le_trans h.size hw.size, h.gH, h.oth⟩
set_option maxRecDepth 100000 in
/-- Row k, still empty, is begun. -/
theorem Mat.begin {w : World} {B g n k : Nat} {us : Nat → Value} {rows : Nat → List Int} (h : Mat w B g n us rows) (hu : us k = .slice none 0 0) (hr : rows k = []) : MatK w B w.heap.size g n k us rows :=
  ⟨h, by rw [hu, hr]; exact OwnI.nil _ _, Nat.le_trans h.base (Nat.le_of_lt h.outer.lt), Nat.le_refl _, h.outer.lt, fun o b ho _ hb => (World.ownsRow.lt (h.row o ho) b hb).2⟩
set_option maxRecDepth 100000 in
theorem MatK.app {w w' wz : World} {B H g n k : Nat} {us : Nat → Value} {rows : Nat → List Int} (h : MatK w B H g n k us rows) (hk : k < n) {v' : Value} {xs : List Int} (hv : OwnI w' H v' xs) (hg : w.grownBy w' (us k).ownBlock) (hz : Ext w' wz) :
    MatK (wz.setCell ⟨g, k, none⟩ v') B H g n k (fun o => if o = k then v' else us o) (fun o => if o = k then xs else rows o) := by
  have hgz := grown_ext hg hz
  have hvz := hv.ext hz
  have hnew : ∀ b, v'.ownBlock = some b → H ≤ b := fun b hb => (World.ownsRow.lt hv b hb).1
  have hold : ∀ b, (us k).ownBlock = some b → H ≤ b := fun b hb => (World.ownsRow.lt h.cur b hb).1
  have hgh := h.gH
  have far : ∀ b, H ≤ b → b ≠ g ∧ ∀ o, o < n → o ≠ k → (us o).ownBlock ≠ some b := fun b hb => ⟨by omega, fun o ho hne e => by have := h.oth o b ho hne e; omega⟩
  refine ⟨h.mat.put hk hgz (fun b hb => far b (hold b hb)) (hvz.base h.low) (fun b hb => far b (hnew b hb)), ?_, h.low, ?_, hgh, fun o b ho hne hb => ?_⟩
  · rw [if_pos rfl, if_pos rfl]
    exact hvz.keepRow (setCell_row wz g k v') (by
      cases hb : v'.ownBlock with
      | none => exact .inl rfl
      | some b => exact .inr (fun e => by have := hnew b hb; injection e with e; omega))
  · have h1 := h.size
    have h2 := hgz.size
    simp [World.setCell]; omega
  · rw [if_neg hne] at hb
    exact h.oth o b ho hne hb

/-- The list lies where it lay, or in memory that was not there. -/
def Fresh (w : World) (v v' : Value) : Prop := v'.ownBlock = v.ownBlock ∨ ∀ k, v'.ownBlock = some k → w.heap.size ≤ k

set_option maxRecDepth 100000 in
theorem run_append_fresh {P : Program} (w : World) (base : Nat) (t ty e : TypeId) (i : TypeInfo) (z : Value) (size bytes : Nat) (ht : P.underlying t = some (.slice e)) (hi : P.info? e = some i) (hz : i.zero = some z)
    (hsize : i.size = size) (hby : i.bytes = bytes) (hzs : z.cells.size = size) (hsz : 0 < size)
    (v : Value) (n : Nat) (xs : List Value) (hown : w.ownsRow base e size v n xs)
    (a : Addr) (m c : Nat) (news : List Value) (hl : news.length = m * size) (hnews : ∀ (j : Nat) u, news[j]? = some u → w.cell? (a.add j) = some u) (h1 : ∀ u ∈ news, u.oneCell' = true) (hm : 0 < m)
    (h63 : n + m ≤ maxLen) (hbytes : (n + m) * bytes ≤ 140737488355328) (hbase : base ≤ w.heap.size) :
    ∃ v' w', (Builtin.append_ #[t, t] ty #[v, .slice (some a) m c]).run P w = .ok v' w' ∧ w'.ownsRow base e size v' (n + m) (xs ++ news) ∧ w.grownBy w' v.ownBlock ∧ Fresh w v v' := by
  obtain ⟨v', w', hr, h2, h3, _⟩ := run_append_own (P := P) w base t ty e i z size bytes ht hi hz hsize hby hzs hsz v n xs hown a m c news hl hnews h1 h63 hbytes hbase
  refine ⟨v', w', hr, h2, h3, ?_⟩
  subst hsize
  subst hby
  have hmx : n + m ≤ 9223372036854775807 := by simp only [maxLen] at h63; omega
  rcases hown.2 with ⟨rfl, rfl⟩ | ⟨g, cap, cur, rfl, hbg, hg, hnc, hcm, hcs, htake⟩
  · have hr2 := run_append_nil (P := P) w t ty e i z ht hi hz a m c news hl hnews hm (by omega) (by have hb := hbytes; simp only [Nat.zero_add] at hb; omega)
    rw [hr] at hr2
    injection hr2 with e1 e2
    subst e1
    exact .inr (fun k hk => by simp only [Value.ownBlock, Option.some.injEq] at hk; omega)
  · by_cases hroom : n + m ≤ cap
    · have hfit : n * i.size + news.length ≤ cur.size := by rw [hl, hcs, ← Nat.add_mul]; exact Nat.mul_le_mul_right _ hroom
      have hr2 := run_append_room (P := P) w t ty e i ht hi g n cap cur hg a m c news hl hnews h1 hroom hfit
      rw [hr] at hr2
      injection hr2 with e1 e2
      subst e1
      exact .inl rfl
    · have holds : ∀ (j : Nat) u, xs[j]? = some u → w.cell? ((⟨g, 0, none⟩ : Addr).add j) = some u := hown.cells (g := g) rfl
      have hr2 := run_append_grow (P := P) w t ty e i z ht hi hz ⟨g, 0, none⟩ n cap xs hown.1 holds a m c news hl hnews (by omega) (by omega) (growslice_fits (by omega) hbytes)
      rw [hr] at hr2
      injection hr2 with e1 e2
      subst e1
      exact .inr (fun k hk => by simp only [Value.ownBlock, Option.some.injEq] at hk; omega)

set_option maxRecDepth 100000 in
theorem wpList_appF {ops : Array Oper} {rest : List Oper} {o : Oper} {a : Act} {Q : Exit → Act → World → Prop} (B : Nat) (w3 : World) (hgd : o.guard = none) (s x : Operand)
    (ho : o.op = .call { callee := .builtin .append, args := #[s, x], argTypes := #[29, 29] }) (v : Value) (xs : List Int) (y : Int) (hs : a.eval s = v) (hown : OwnI w3 B v xs) (hB : B ≤ w3.heap.size)
    (hx : a.eval x = .slice (some ⟨w3.heap.size, 0, none⟩) 1 1) (hlen : xs.length ≤ 2000000)
    (h : ∀ v' w', OwnI w' B v' (xs ++ [y]) → w3.grownBy w' v.ownBlock → Fresh w3 v v' → wpList Try.prog ops Q rest (a.put o.dst v') w') : wpList Try.prog ops Q (o :: rest) a (w3.alloc (.cells #[.int .i64 y] 3)) := by
  obtain ⟨i0, hi, hz0, hz1, hz2⟩ := info_parts info_int
  have hown3 := hown.ext (Ext.new w3 (.cells #[.int .i64 y] 3))
  obtain ⟨v', w', hr, h1, h2, h3⟩ := run_append_fresh (P := Try.prog) (w3.alloc (.cells #[.int .i64 y] 3)) B 29 o.type 3 i0 (.int .i64 0) 1 8 Try.underlying29 hi hz0 hz1 hz2 rfl (by decide) v xs.length _ hown3 ⟨w3.heap.size, 0, none⟩ 1 1 [.int .i64 y] rfl
    (fun j u hj => by
      match j, hj with
      | 0, hj => simp at hj; subst hj; simp [Addr.add])
    (fun u hu => by simp at hu; subst hu; rfl) (by decide) (by unfold maxLen; omega) (by omega) (by simp; omega)
  refine wpList_plain hgd fun K hK => ?_
  unfold Oper.wp execOp
  simp only [ho, resolve, invoke, builtin, Sem.run_bind, Sem.run_pure, Result.andThen_ok, List.map_toArray, List.map_cons, List.map_nil, hs, hx, hr]
  refine hK _ _ (h v' w' ?_ ?_ ?_)
  · unfold OwnI
    simpa using h1
  · exact ⟨h2.os, h2.tape, h2.output, Nat.le_trans (by simp) h2.size, fun k hk hne => (h2.block k (by simp; omega) hne).trans (Below.block (Ext.new w3 (.cells #[.int .i64 y] 3)) k hk)⟩
  · rcases h3 with h3 | h3
    · exact .inl h3
    · exact .inr (fun k hk => by have := h3 k hk; simp at this; omega)

/-- Blocks from lo on and below hi are as they were. -/
def Keeps (lo hi : Nat) (w w' : World) : Prop := w.heap.size ≤ w'.heap.size ∧ ∀ k, lo ≤ k → k < hi → w'.heap[k]? = w.heap[k]?
set_option maxRecDepth 100000 in
theorem Keeps.refl (lo hi : Nat) (w : World) : Keeps lo hi w w := ⟨Nat.le_refl _, fun _ _ _ => rfl⟩
set_option maxRecDepth 100000 in
theorem Keeps.ext {lo hi : Nat} {w w' w'' : World} (h : Keeps lo hi w w') (hw : Ext w' w'') (hh : hi ≤ w'.heap.size) : Keeps lo hi w w'' :=
  ⟨Nat.le_trans h.1 hw.size, fun k h1 h2 => (Below.block hw k (by omega)).trans (h.2 k h1 h2)⟩
set_option maxRecDepth 100000 in
theorem Keeps.grown {lo hi : Nat} {w w' w'' : World} {row : Option Nat} (h : Keeps lo hi w w') (hg : w'.grownBy w'' row) (hh : hi ≤ w'.heap.size) (hr : ∀ k, row = some k → k < lo ∨ hi ≤ k) : Keeps lo hi w w'' :=
  ⟨Nat.le_trans h.1 hg.size, fun k h1 h2 => (hg.block k (by omega) (fun e => by have := hr k e.symm; omega)).trans (h.2 k h1 h2)⟩
set_option maxRecDepth 100000 in
theorem Fresh.out {w : World} {v v' : Value} {lo hi : Nat} (h : Fresh w v v') (hv : ∀ k, v.ownBlock = some k → k < lo ∨ hi ≤ k) (hh : hi ≤ w.heap.size) : ∀ k, v'.ownBlock = some k → k < lo ∨ hi ≤ k := fun k hk => by
  rcases h with h | h
  · exact hv k (by rw [← h]; exact hk)
  · have := h k hk; omega
set_option maxRecDepth 100000 in
theorem OwnI.keeps {w w' : World} {B hi : Nat} {v : Value} {xs : List Int} (h : OwnI w B v xs) (hw : Keeps B hi w w') (hb : ∀ k, v.ownBlock = some k → k < hi) : OwnI w' B v xs := by
  obtain ⟨h1, h2⟩ := h
  refine ⟨h1, ?_⟩
  rcases h2 with h2 | ⟨g, cap, cur, rfl, hg, hh, r⟩
  · exact .inl h2
  · exact .inr ⟨g, cap, cur, rfl, hg, by rw [hw.2 g hg (hb g rfl)]; exact hh, r⟩
set_option maxRecDepth 100000 in
theorem Mat.keeps {w w' : World} {B hi g n : Nat} {us : Nat → Value} {rows : Nat → List Int} (h : Mat w B g n us rows) (hw : Keeps B hi w w') (hh : w.heap.size ≤ hi) : Mat w' B g n us rows := by
  have hl := h.outer.lt
  have hg := hw.2 g h.base (by omega)
  exact ⟨h.base, ⟨Nat.lt_of_lt_of_le hl hw.1, fun o => (World.frozen?_of_block (w := w) hg).trans (h.outer.fr o), fun o ho => (World.cell?_of_block (w := w) hg).trans (h.outer.cell o ho)⟩,
    fun o ho => (h.row o ho).keeps hw (fun k hk => Nat.lt_of_lt_of_le (World.ownsRow.lt (h.row o ho) k hk).2 hh), h.far, h.dis⟩
set_option maxRecDepth 100000 in
theorem WrSS.keeps {w w' : World} {B hi : Nat} {v : Value} {xss : List (List Int)} (h : WrSS w B v xss) (hw : Keeps B hi w w') (hh : w.heap.size ≤ hi) : WrSS w' B v xss := by
  obtain ⟨a, c, hv, hc, ho⟩ := h
  refine ⟨a, c, hv, hc, fun hne => ?_⟩
  obtain ⟨g, us, ha, hM⟩ := ho hne
  exact ⟨g, us, ha, hM.keeps hw hh⟩

/-- The slice address a reads as the bytes bs. -/
def RdY (w : World) (a : Option Addr) (bs : List Int) : Prop := bs ≠ [] → ∃ b off, a = some ⟨b, off, none⟩ ∧ ∀ (j : Nat) (x : Int), bs[j]? = some x → w.cell? ⟨b, off + j, none⟩ = some (.int .u8 x)
set_option maxRecDepth 100000 in
theorem RdY.ext {w w' : World} {a : Option Addr} {bs : List Int} (h : RdY w a bs) (hw : Ext w w') : RdY w' a bs := fun hne => by
  obtain ⟨b, off, ha, hj⟩ := h hne
  exact ⟨b, off, ha, fun j x hx => hw.keep (hj j x hx)⟩
set_option maxRecDepth 100000 in
theorem RdY.at_ {w : World} {a : Option Addr} {bs : List Int} (h : RdY w a bs) {k : Nat} {x : Int} (hx : bs[k]? = some x) : ∃ b off, a = some ⟨b, off, none⟩ ∧ w.cell? ⟨b, off + k, none⟩ = some (.int .u8 x) := by
  obtain ⟨b, off, ha, hj⟩ := h (ne_of_at hx)
  exact ⟨b, off, ha, hj k x hx⟩
set_option maxRecDepth 100000 in
theorem RdY.lt {w : World} {b off : Nat} {bs : List Int} (h : RdY w (some ⟨b, off, none⟩) bs) (hne : bs ≠ []) : b < w.heap.size := by
  obtain ⟨x, hx⟩ := at_of_lt (xs := bs) (k := 0) (List.length_pos_iff.2 hne)
  obtain ⟨b', off', e, hc⟩ := h.at_ hx
  injection e with e
  injection e with e
  subst e
  exact World.block_lt_of_cell? w _ hc
set_option maxRecDepth 100000 in
theorem Only.rdY {g : Nat} {w w' : World} (h : Only g w w') {a : Option Addr} {bs : List Int} (hr : RdY w a bs) (hne : ∀ b off, a = some ⟨b, off, none⟩ → bs ≠ [] → b < g) : RdY w' a bs := fun hx => by
  obtain ⟨b, off, rfl, hc⟩ := hr hx
  exact ⟨b, off, rfl, fun j x hj => h.keep (by have := hne b off rfl hx; show b ≠ g; omega) (hc j x hj)⟩
def curF (a : Option Addr) (n c : Nat) (i h : Int) (o : Nat) : Value := if o = 0 then .slice a n c else if o = 1 then .int .i64 i else if o = 2 then .int .i64 h else undef
/-- Block g is such a source. -/
def Cur (w : World) (g : Nat) : Prop := ∃ (a : Option Addr) (bs : List Int) (c i : Nat) (h : Int), BlkF w g 3 (curF a bs.length c i h) ∧ i ≤ bs.length ∧ bs.length ≤ 1048576 ∧ RdY w a bs ∧ ∀ b off, a = some ⟨b, off, none⟩ → bs ≠ [] → b < g
set_option maxRecDepth 100000 in
theorem Cur.ext {w w' : World} {g : Nat} (h : Cur w g) (hw : Ext w w') : Cur w' g := by
  obtain ⟨a, bs, c, i, k, hB, h1, h2, hR, h3⟩ := h
  exact ⟨a, bs, c, i, k, hB.ext hw, h1, h2, hR.ext hw, h3⟩
set_option maxRecDepth 100000 in
theorem Cur.lt {w : World} {g : Nat} (h : Cur w g) : g < w.heap.size := by
  obtain ⟨a, bs, c, i, k, hB, _⟩ := h
  exact hB.lt
set_option maxRecDepth 100000 in
theorem Cur.only {w w' : World} {g g' : Nat} (h : Cur w g) (hg : g < g') (hw : Only g' w w') : Cur w' g := by
  obtain ⟨a, bs, c, i, k, hB, h1, h2, hR, h3⟩ := h
  exact ⟨a, bs, c, i, k, hw.blk hB (by omega), h1, h2, hw.rdY hR (fun b off ha hne => by have := h3 b off ha hne; omega), h3⟩
set_option maxRecDepth 100000 in
theorem and255 (x : Int) : 0 ≤ bits BinOp.and IntKind.i64 x 255 ∧ bits BinOp.and IntKind.i64 x 255 ≤ 255 := by
  have h1 : bits BinOp.and IntKind.i64 x 255 = IntKind.i64.wrap ((BitVec.ofInt 64 x &&& BitVec.ofInt 64 255).toNat : Int) := rfl
  have h2 : (BitVec.ofInt 64 x &&& BitVec.ofInt 64 255).toNat ≤ 255 := by
    rw [BitVec.toNat_and]
    exact Nat.le_trans Nat.and_le_right (by decide)
  rw [h1, IntWalk.i64_in _ (by omega)]
  omega

set_option maxRecDepth 100000 in
set_option maxHeartbeats 1000000 in
theorem byte_spec (w : World) (g : Nat) (hC : Cur w g) :
    Calls Try.prog 88 #[.pointer (some ⟨g, 0, none⟩)] w fun e w' => ∃ x : Int, e = .returned (.int .i64 x) ∧ (0 ≤ x ∧ x ≤ 255) ∧ Cur w' g ∧ Only g w w' := by
  obtain ⟨a, bs, c, i, h, hB, hi, hl, hR, hb⟩ := hC
  have c0 : w.cell? ⟨g, 0, none⟩ = some (.slice a bs.length c) := hB.cell 0 (by omega)
  have c1 : w.cell? ⟨g, 1, none⟩ = some (.int .i64 i) := hB.cell 1 (by omega)
  have c2 : w.cell? ⟨g, 2, none⟩ = some (.int .i64 h) := hB.cell 2 (by omega)
  have z2 := hB.fr 2
  have HB := hide hB
  have HRB := hide hb
  have HRY := hide hR
  clear hB hb hR
  go_enter Try.func88, Try.ntmps88
  go_wp2
  have hO : Only g w (w.setCell ⟨g, 2, none⟩ (.int .i64 (wrap64 (wrap64 (h * 6364136223846793005) + 1442695040888963407)))) := (Only.refl g w).setCell 2 _
  have hB1 := (HB.out.set 2 (by omega) (.int .i64 (wrap64 (wrap64 (h * 6364136223846793005) + 1442695040888963407)))).congr (f' := curF a bs.length c i (wrap64 (wrap64 (h * 6364136223846793005) + 1442695040888963407))) (fun o ho => by
    match o, ho with
    | 0, _ => rfl
    | 1, _ => rfl
    | 2, _ => rfl)
  generalize wrap64 (wrap64 (h * 6364136223846793005) + 1442695040888963407) = h2 at hO hB1 ⊢
  generalize w.setCell ⟨g, 2, none⟩ (.int .i64 h2) = W at hO hB1 ⊢
  have hR1 := hO.rdY HRY.out HRB.out
  have c0 : W.cell? ⟨g, 0, none⟩ = some (.slice a bs.length c) := hB1.cell 0 (by omega)
  have c1 : W.cell? ⟨g, 1, none⟩ = some (.int .i64 i) := hB1.cell 1 (by omega)
  have c2 : W.cell? ⟨g, 2, none⟩ = some (.int .i64 h2) := hB1.cell 2 (by omega)
  have HB1 := hide hB1
  have HR1 := hide hR1
  clear hB1 hR1 HB HRY z2
  refine wp_region_X (by kernel_rfl) (by kernel_rfl) ?_
  repeat' (refine wpX_stepQ (fun K hK => ?_)
           go_simp
           try (rw [if_neg (by intro h; simp [undef] at h)])
           try split
           all_goals
             first
             | (refine hK _ ?_
                clear hK K)
             | (apply Exists.intro
                refine ⟨fun wq hwq => ?_, hK _ ?_⟩
                · have hcq := hwq.cellS
                  go_simp
                  first
                  | exact ⟨Ext.refl _, rfl⟩
                clear hK K))
  refine wpX_nil (fun wz hwz => ?_)
  have c0 := hwz.keep c0
  have c1 := hwz.keep c1
  have hO := hO.trans (Only.of_ext hwz)
  have HB1 := hide (HB1.out.ext hwz)
  have HR1 := hide (HR1.out.ext hwz)
  clear hwz
  have hx := and255 (bits BinOp.xor IntKind.i64 (h2 / 8589934592) (h2 / 35184372088832))
  generalize bits BinOp.and IntKind.i64 (bits BinOp.xor IntKind.i64 (h2 / 8589934592) (h2 / 35184372088832)) 255 = X at hx ⊢
  obtain ⟨wa, hwa⟩ : ∃ wa : World, wa = wz := ⟨_, rfl⟩
  subst hwa
  by_cases hit : i < bs.length
  · obtain ⟨y, hy⟩ := at_of_lt hit
    obtain ⟨b, off, rfl, d0⟩ := HR1.out.at_ hy
    clear hy
    go_wp2
    refine wp_region_X (by kernel_rfl) (by kernel_rfl) ?_
    repeat' (refine wpX_stepQ (fun K hK => ?_)
             go_simp
             try (rw [if_neg (by intro h; simp [undef] at h)])
             try split
             all_goals
               first
               | (refine hK _ ?_
                  clear hK K)
               | (apply Exists.intro
                  refine ⟨fun wq hwq => ?_, hK _ ?_⟩
                  · have hcq := hwq.cellS
                    go_simp
                    first
                    | exact ⟨Ext.refl _, rfl⟩
                  clear hK K))
    refine wpX_nil (fun wz hwz => ?_)
    have c0 := hwz.keep c0
    have c1 := hwz.keep c1
    have d0 := hwz.keep d0
    have hO := hO.trans (Only.of_ext hwz)
    have HB1 := hide (HB1.out.ext hwz)
    have HR1 := hide (HR1.out.ext hwz)
    clear hwz
    obtain ⟨wc, hwc⟩ : ∃ wc : World, wc = wz := ⟨_, rfl⟩
    subst hwc
    go_wp2
    refine wp_region_X (by kernel_rfl) (by kernel_rfl) ?_
    repeat' (refine wpX_stepQ (fun K hK => ?_)
             go_simp
             try (rw [if_neg (by intro h; simp [undef] at h)])
             try split
             all_goals
               first
               | (refine hK _ ?_
                  clear hK K)
               | (apply Exists.intro
                  refine ⟨fun wq hwq => ?_, hK _ ?_⟩
                  · have hcq := hwq.cellS
                    go_simp
                    first
                    | exact ⟨Ext.refl _, rfl⟩
                  clear hK K))
    refine wpX_nil (fun wz hwz => ?_)
    have c1 := hwz.keep c1
    have hO := hO.trans (Only.of_ext hwz)
    have hBz := HB1.out.ext hwz
    have z1 := hBz.fr 1
    have HB2 := hide hBz
    have HR2 := hide (HR1.out.ext hwz)
    have y1 : wrap64 ((i : Int) + 1) = ((i + 1 : Nat) : Int) := by rw [IntWalk.wrap64_in _ (by omega)]; omega
    clear hwz hBz
    have hx2 := and255 (IntKind.i64.wrap (X + IntKind.i64.wrap y))
    generalize bits BinOp.and IntKind.i64 (IntKind.i64.wrap (X + IntKind.i64.wrap y)) 255 = Z at hx2 ⊢
    go_wp2
    go_ret
    refine ⟨Z, rfl, hx2, ⟨some ⟨b, off, none⟩, bs, c, i + 1, h2, (HB2.out.set 1 (by omega) _).congr (fun o ho => ?_), by omega, hl, ((Only.refl g wz).setCell 1 _).rdY HR2.out HRB.out, HRB.out⟩, hO.setCell 1 _⟩
    match o, ho with
    | 0, _ => rfl
    | 1, _ => rfl
    | 2, _ => rfl
  · go_wp2
    refine wp_region_X (by kernel_rfl) (by kernel_rfl) ?_
    repeat' (refine wpX_stepQ (fun K hK => ?_)
             go_simp
             try (rw [if_neg (by intro h; simp [undef] at h)])
             try split
             all_goals
               first
               | (refine hK _ ?_
                  clear hK K)
               | (apply Exists.intro
                  refine ⟨fun wq hwq => ?_, hK _ ?_⟩
                  · have hcq := hwq.cellS
                    go_simp
                    first
                    | exact ⟨Ext.refl _, rfl⟩
                  clear hK K))
    refine wpX_nil (fun wz hwz => ?_)
    go_wp2
    go_ret
    exact ⟨X, rfl, hx, ⟨a, bs, c, i, h2, HB1.out.ext hwz, hi, hl, HR1.out.ext hwz, HRB.out⟩, hO.trans (Only.of_ext hwz)⟩

set_option maxRecDepth 100000 in
theorem tmod_bd {x : Int} {n : Nat} (h0 : 0 ≤ x) (hn : 1 ≤ n) : 0 ≤ x.tmod n ∧ x.tmod n < n := by
  obtain ⟨k, rfl⟩ : ∃ k : Nat, x = k := ⟨x.toNat, by omega⟩
  have h : ((k : Int).tmod (n : Int)) = ((k % n : Nat) : Int) := rfl
  have h2 : k % n < n := Nat.mod_lt k (by omega)
  rw [h]; omega

set_option maxRecDepth 100000 in
set_option maxHeartbeats 1000000 in
theorem below_spec (w : World) (g n : Nat) (hC : Cur w g) (n1 : 1 ≤ n) (n2 : n ≤ 256) :
    Calls Try.prog 178 #[.pointer (some ⟨g, 0, none⟩), .int .i64 n] w fun e w' => ∃ x : Nat, e = .returned (.int .i64 x) ∧ x < n ∧ Cur w' g ∧ Only g w w' := by
  have i1 : ¬ (n : Int) ≤ 0 := by omega
  have i2 : (n : Int) ≤ 256 := by omega
  have i3 : n ≤ 256 := by omega
  have i4 : (n : Int) ≠ 0 := by omega
  have i5 : n ≠ 0 := by omega
  go_enter Try.func178, Try.ntmps178
  go_wp2_with fail
  refine (byte_spec _ g hC).mono ?_
  rintro e w1 ⟨x, rfl, hx, hC1, hO1⟩
  obtain ⟨m, hm⟩ : ∃ m : Nat, x.tmod n = m := ⟨(x.tmod n).toNat, by have := tmod_bd (n := n) hx.1 n1; omega⟩
  have hmn : m < n := by have := tmod_bd (n := n) hx.1 n1; omega
  go_wp2
  go_ret
  exact ⟨m, rfl, hmn, hC1, hO1⟩

set_option maxRecDepth 100000 in
theorem cur_new (w : World) (a : Option Addr) (c : Nat) (x : Int) (bs : List Int) (hR : RdY w a bs) (hl : bs.length ≤ 1048576) : Cur (w.alloc (.cells #[.slice a bs.length c, .int .i64 0, .int .i64 x] 128)) w.heap.size := by
  refine ⟨a, bs, c, 0, x, (BlkF.new w #[.slice a bs.length c, .int .i64 0, .int .i64 x] 128).congr (fun o ho => ?_), Nat.zero_le _, hl, hR.ext (Ext.new _ _), fun b off ha hne => ?_⟩
  · match o, ho with
    | 0, _ => rfl
    | 1, _ => rfl
    | 2, _ => rfl
  · subst ha
    exact hR.lt hne

set_option maxRecDepth 100000 in
set_option maxHeartbeats 1000000 in
theorem new_spec (w : World) (a : Option Addr) (c : Nat) (bs : List Int) (hR : RdY w a bs) (hl : bs.length ≤ 1048576) :
    Calls Try.prog 179 #[.slice a bs.length c] w fun e w' => ∃ g, e = .returned (.pointer (some ⟨g, 0, none⟩)) ∧ w.heap.size ≤ g ∧ Cur w' g ∧ Ext w w' := by
  have y0 : wrap64 (2139 + (bs.length : Int)) = 2139 + (bs.length : Int) := IntWalk.wrap64_in _ (by omega)
  go_enter Try.func179, Try.ntmps179
  go_wp2_with fail
  go_loopw [3, 4] (fun h i wr => ∃ (k : Nat) (x : Int), i = .int .i64 k ∧ h = .int .i64 x ∧ k ≤ bs.length ∧ wr = w) (fun _ i _ => bs.length - (intOf i).toNat)
  case atStart => exact ⟨0, _, rfl, rfl, Nat.zero_le _, rfl⟩
  case round =>
    obtain ⟨k, x, rfl, rfl, hk, rfl⟩ := hrel
    by_cases hkt : k < bs.length ∧ k < 4000
    · obtain ⟨k1, k2⟩ := hkt
      obtain ⟨y, hy⟩ := at_of_lt k1
      obtain ⟨b, off, rfl, c0⟩ := hR.at_ hy
      have k3 : (k : Int) < 4000 := by omega
      clear hy
      go_wp2
      exact ⟨⟨k + 1, _, by go_num, rfl, by omega, trivial⟩, by simp [intOf]; omega⟩
    · by_cases k1 : k < bs.length
      · have k2 : ¬ k < 4000 := fun h => hkt ⟨k1, h⟩
        have k3 : ¬ (k : Int) < 4000 := by omega
        clear hkt
        go_wp2
        go_ret
        exact ⟨wr.heap.size, rfl, Nat.le_refl _, cur_new wr a c x bs hR hl, Ext.new _ _⟩
      · clear hkt
        go_wp2
        go_ret
        exact ⟨wr.heap.size, rfl, Nat.le_refl _, cur_new wr a c x bs hR hl, Ext.new _ _⟩

set_option maxRecDepth 100000 in
/-- What happened in memory: old blocks are as they were but for the source. -/
theorem Only.fresh {g k : Nat} {a b c : World} (h : Only g a b) (hg : b.grownBy c (some k)) (hk : a.heap.size ≤ k) : Only g a c :=
  ⟨hg.os.trans h.os, hg.tape.trans h.tape, hg.output.trans h.output, Nat.le_trans h.size hg.size, fun i hi hne => (hg.block i (Nat.lt_of_lt_of_le hi h.size) (fun e => by injection e with e; omega)).trans (h.block i hi hne)⟩

set_option maxRecDepth 100000 in
set_option maxHeartbeats 1000000 in
theorem lnew_spec (w : World) (a : Option Addr) (c n : Nat) (bs : List Int) (hR : RdY w a bs) (hl : bs.length ≤ 1048576) (hn : n ≤ 1000) :
    Calls Try.prog 87 #[.slice a bs.length c, .int .i64 n] w fun e w' => ∃ g, e = .returned (.pointer (some ⟨g, 0, none⟩)) ∧ w.heap.size ≤ g ∧ Cur w' g ∧ Ext w w' := by
  go_enter Try.func87, Try.ntmps87
  go_wp2_with fail
  refine (new_spec w a c bs hR hl).mono ?_
  rintro e w1 ⟨g, rfl, hg, hC, hw1⟩
  go_wp2_with fail
  go_loopw [6] (fun i wr => ∃ k : Nat, i = .int .i64 k ∧ k ≤ n ∧ Cur wr g ∧ Ext w wr) (fun i _ => n - (intOf i).toNat)
  case atStart => exact ⟨0, rfl, Nat.zero_le _, hC, hw1⟩
  case round =>
    clear hC hw1
    obtain ⟨k, rfl, hk, hC, hwr⟩ := hrel
    by_cases hkt : k < n
    · have HC := hide hC
      clear hC
      go_wp2_with fail
      refine (byte_spec _ g HC.out).mono ?_
      rintro e w2 ⟨x, rfl, hx, hC2, hO2⟩
      go_wp2
      exact ⟨⟨k + 1, by go_num, by omega, hC2, Only.ext hwr hO2 hg⟩, by simp [intOf]; omega⟩
    · have HC := hide hC
      clear hC
      go_wp2
      go_ret
      exact ⟨g, rfl, hg, HC.out, hwr⟩

set_option maxRecDepth 100000 in
set_option maxHeartbeats 1000000 in
theorem numY_spec (w : World) (a : Option Addr) (c n : Nat) (bs : List Int) (hR : RdY w a bs) (hl : bs.length ≤ 1048576) (hn : n ≤ 1000) :
    Calls Try.prog 11 #[.slice a bs.length c, .int .i64 n] w fun e w' => ∃ x : Nat, e = .returned (.int .i64 x) ∧ x ≤ 65536 ∧ Ext w w' := by
  go_enter Try.func11, Try.ntmps11
  go_wp2_with fail
  refine (lnew_spec w a c n bs hR hl hn).mono ?_
  rintro e w1 ⟨g, rfl, hg, hC, hw1⟩
  go_wp2_with fail
  refine (byte_spec _ g hC).mono ?_
  rintro e w2 ⟨x, rfl, hx, hC2, hO2⟩
  have hw2 := Only.ext hw1 hO2 hg
  go_wp2_with fail
  refine (byte_spec _ g hC2).mono ?_
  rintro e w3 ⟨y, rfl, hy, hC3, hO3⟩
  have y1 : wrap64 (x * 256) = x * 256 := IntWalk.wrap64_in _ (by omega)
  have y2 : wrap64 (x * 256 + y) = x * 256 + y := IntWalk.wrap64_in _ (by omega)
  go_wp2
  go_ret
  exact ⟨(x * 256 + y).toNat, ret_int (by omega), by omega, Only.ext hw2 hO3 hg⟩

set_option maxRecDepth 100000 in
set_option maxHeartbeats 1000000 in
theorem indexFuncI (K : Nat) (fst cap : Array Value) (p : Int → Bool) (w : World) (a : Option Addr) (c : Nat) (xs : List Int) (hR : RdI w a xs) (hl : xs.length ≤ 2000000) (hK : Enters Try.prog K)
    (hf : ∀ (x : Int) (w' : World), x ∈ xs → Ext w w' → Calls Try.prog K (fst.push (.int .i64 x) ++ cap) w' fun e w'' => e = .returned (.bool (p x)) ∧ Ext w' w'') :
    Calls Try.prog 165 #[.slice a xs.length c, .func (.func K) fst cap] w fun e w' => e = .returned (.int .i64 (findI p xs)) ∧ Ext w w' := by
  unfold Enters at hK
  have HF := hide hf
  clear hf
  go_enter Try.func165, Try.ntmps165
  go_wp2_with fail
  go_loopw [5, 8] (fun _ i wr => ∃ k : Nat, k ≤ xs.length ∧ i = .int .i64 k ∧ Hid ((xs.take k).all (fun x => !p x) = true) ∧ Ext w wr) (fun _ i _ => xs.length - (intOf i).toNat)
  case atStart => exact ⟨0, Nat.zero_le _, rfl, rfl, Ext.refl _⟩
  case round =>
    obtain ⟨k, hk, rfl, hall, hwr⟩ := hrel
    by_cases hlt : k < xs.length
    · obtain ⟨x, hx⟩ := at_of_lt hlt
      obtain ⟨b, off, rfl, c0⟩ := (hR.ext hwr).at_ hx
      have HX := hide hx
      clear hx
      cases hp : p x
      all_goals
        go_wp2_with fail
        refine (HF.out x wr (List.mem_of_getElem? HX.out) hwr).mono ?_
        rintro e w1 ⟨rfl, hw1⟩
        go_wp2
      · exact ⟨⟨k + 1, by omega, by go_num, (all_take HX.out hall.out).trans (by simp [hp]), hwr.trans hw1⟩, by simp [intOf]; omega⟩
      · go_ret
        exact ⟨ret_int (findI_some HX.out hall.out hp).symm, hwr.trans hw1⟩
    · go_wp2
      go_ret
      exact ⟨ret_int (findI_none (all_whole (by omega) hall.out)).symm, hwr⟩

set_option maxRecDepth 100000 in
set_option maxHeartbeats 1000000 in
theorem containsFuncI (K : Nat) (fst cap : Array Value) (p : Int → Bool) (w : World) (a : Option Addr) (c : Nat) (xs : List Int) (hR : RdI w a xs) (hl : xs.length ≤ 2000000) (hK : Enters Try.prog K)
    (hf : ∀ (x : Int) (w' : World), x ∈ xs → Ext w w' → Calls Try.prog K (fst.push (.int .i64 x) ++ cap) w' fun e w'' => e = .returned (.bool (p x)) ∧ Ext w' w'') :
    Calls Try.prog 195 #[.slice a xs.length c, .func (.func K) fst cap] w fun e w' => e = .returned (.bool (xs.any p)) ∧ Ext w w' := by
  have H := hide (indexFuncI K fst cap p w a c xs hR hl hK hf)
  clear hf
  go_enter Try.func195, Try.ntmps195
  go_wp2_with fail
  refine H.out.mono ?_
  rintro e w1 ⟨rfl, hw1⟩
  go_wp2
  go_ret
  exact ⟨ret_bool (findI_nonneg p xs), hw1⟩

set_option maxRecDepth 100000 in
set_option maxHeartbeats 1000000 in
theorem allInOne (w : World) (g1 g2 : Nat) (x lo hi : Int) (h1 : w.cell? ⟨g1, 0, none⟩ = some (.int .i64 lo)) (h2 : w.cell? ⟨g2, 0, none⟩ = some (.int .i64 hi)) :
    Calls Try.prog 196 #[.int .i64 x, .pointer (some ⟨g1, 0, none⟩), .pointer (some ⟨g2, 0, none⟩)] w fun e w' => e = .returned (.bool (!inR x lo hi)) ∧ Ext w w' := by
  go_enter Try.func196, Try.ntmps196
  go_wp2_with (go_at_call 94; refine (in_impl _ _ _ _).mono ?_; rintro e w1 ⟨rfl, hw1⟩)
  go_ret
  exact ⟨rfl, (by repeat (first | exact Ext.refl _ | assumption | refine Ext.alloc ?_ _ | refine Ext.drew ?_ | refine Ext.trans ?_ (by assumption)))⟩

set_option maxRecDepth 100000 in
set_option maxHeartbeats 1000000 in
theorem allIn_impl (w : World) (a : Option Addr) (c : Nat) (xs : List Int) (lo hi : Int) (hR : RdI w a xs) (hl : xs.length ≤ 2000000) :
    Calls Try.prog 132 #[.slice a xs.length c, .int .i64 lo, .int .i64 hi] w fun e w' => e = .returned (.bool (xs.all (fun x => inR x lo hi))) ∧ Ext w w' := by
  have hs1 : (w.alloc (.cells #[.int .i64 lo] 3)).heap.size = w.heap.size + 1 := by simp
  have p0 := Ext.keep (Ext.new _ (.cells #[.int .i64 hi] 3)) (new0 w (.int .i64 lo) [] 3)
  have p1 := new0 (w.alloc (.cells #[.int .i64 lo] 3)) (.int .i64 hi) [] 3
  rw [hs1] at p1
  clear hs1
  go_enter Try.func132, Try.ntmps132
  go_wp2_with fail
  refine (containsFuncI 196 #[] #[.pointer (some ⟨w.heap.size, 0, none⟩), .pointer (some ⟨w.heap.size + 1, 0, none⟩)] (fun x => !inR x lo hi) _ a c xs (hR.ext (by repeat (first | exact Ext.refl _ | assumption | refine Ext.alloc ?_ _ | refine Ext.drew ?_ | refine Ext.trans ?_ (by assumption)))) hl Try.call196
    (fun x w' _ hw' => allInOne w' _ _ x lo hi (hw'.keep p0) (hw'.keep p1))).mono ?_
  rintro e w1 ⟨rfl, hw1⟩
  go_wp2
  go_ret
  exact ⟨ret_bool (by rw [any_not]; simp), (by repeat (first | exact Ext.refl _ | assumption | refine Ext.alloc ?_ _ | refine Ext.drew ?_ | refine Ext.trans ?_ (by assumption)))⟩

def placeI (xs : List Int) (a : Int) : Int := findI (fun y => a == y) xs
def prefB (xs : List Int) (a b : Int) : Bool := decide (0 ≤ placeI xs a) && (decide (0 ≤ placeI xs b) && decide (placeI xs a < placeI xs b))
set_option maxRecDepth 100000 in
theorem placeI_lt (xs : List Int) (a : Int) : -1 ≤ placeI xs a ∧ placeI xs a < xs.length + 1 := by
  unfold placeI findI
  cases h : xs.findIdx? (fun y => a == y) with
  | none => simp; omega
  | some i =>
    rw [List.findIdx?_eq_some_iff_getElem] at h
    obtain ⟨hk, _⟩ := h
    simp; omega

set_option maxRecDepth 100000 in
set_option maxHeartbeats 1000000 in
theorem place_spec (w : World) (a : Option Addr) (c : Nat) (xs : List Int) (x : Int) (hR : RdI w a xs) (hl : xs.length ≤ 2000000) :
    Calls Try.prog 218 #[.slice a xs.length c, .int .i64 x] w fun e w' => e = .returned (.int .i64 (placeI xs x)) ∧ Ext w w' := by
  go_enter Try.func218, Try.ntmps218
  go_wp2_with fail
  go_loopw [5, 6, 9] (fun _ _ i wr => ∃ k : Nat, k ≤ xs.length ∧ i = .int .i64 k ∧ Hid ((xs.take k).all (fun y => !(x == y)) = true) ∧ Ext w wr) (fun _ _ i _ => xs.length - (intOf i).toNat)
  case atStart => exact ⟨0, Nat.zero_le _, rfl, rfl, Ext.refl _⟩
  case round =>
    obtain ⟨k, hk, rfl, hall, hwr⟩ := hrel
    by_cases hlt : k < xs.length
    · obtain ⟨y, hy⟩ := at_of_lt hlt
      obtain ⟨b, off, rfl, c0⟩ := (hR.ext hwr).at_ hy
      have HY := hide hy
      clear hy
      have hxy : (x == y) = (y == x) := BEq.comm
      cases hp : (y == x)
      all_goals rw [hp] at hxy
      all_goals go_wp2
      · exact ⟨⟨k + 1, by omega, by go_num, (all_take HY.out hall.out).trans (by simp [hxy]), hwr⟩, by simp [intOf]; omega⟩
      · go_ret
        exact ⟨ret_int (findI_some HY.out hall.out hxy).symm, hwr⟩
    · go_wp2
      go_ret
      exact ⟨ret_int (findI_none (all_whole (by omega) hall.out)).symm, hwr⟩

set_option maxRecDepth 100000 in
set_option maxHeartbeats 1000000 in
theorem place_impl (w : World) (a : Option Addr) (c : Nat) (xs : List Int) (x : Int) (hR : RdI w a xs) (hl : xs.length ≤ 2000000) :
    Calls Try.prog 155 #[.slice a xs.length c, .int .i64 x] w fun e w' => e = .returned (.int .i64 (placeI xs x)) ∧ Ext w w' := by
  go_enter Try.func155, Try.ntmps155
  go_wp2_with (go_at_call 181; refine (indexI _ _ _ _ _ hR hl).mono ?_; rintro e w1 ⟨rfl, hw1⟩)
  go_ret
  exact ⟨rfl, hw1⟩

set_option maxRecDepth 100000 in
set_option maxHeartbeats 1000000 in
theorem pref_impl (w : World) (a : Option Addr) (c : Nat) (xs : List Int) (x y : Int) (hR : RdI w a xs) (hl : xs.length ≤ 2000000) :
    Calls Try.prog 81 #[.slice a xs.length c, .int .i64 x, .int .i64 y] w fun e w' => e = .returned (.bool (prefB xs x y)) ∧ Ext w w' := by
  by_cases h1 : 0 ≤ placeI xs x <;> by_cases h2 : 0 ≤ placeI xs y <;> by_cases h3 : placeI xs x < placeI xs y
  all_goals
    go_enter Try.func81, Try.ntmps81
    go_wp2_with (go_at_call 155; refine (place_impl _ _ _ _ _ (hR.ext (by repeat (first | exact Ext.refl _ | assumption | refine Ext.alloc ?_ _ | refine Ext.drew ?_ | refine Ext.trans ?_ (by assumption)))) hl).mono ?_; rintro e w1 ⟨rfl, hw1⟩)
    all_goals go_ret
    all_goals exact ⟨ret_bool (by simp [prefB, h1, h2, h3]), (by repeat (first | exact Ext.refl _ | assumption | refine Ext.alloc ?_ _ | refine Ext.drew ?_ | refine Ext.trans ?_ (by assumption)))⟩

/-- The weight of the votes whose ranking has a property. -/
def sumV (p : List Int → Bool) (vs : List Vt) : Int := ((vs.filter (fun x => p x.1)).map Prod.snd).sum
set_option maxRecDepth 100000 in
theorem sumV_at {p : List Int → Bool} {vs : List Vt} {k : Nat} {x : Vt} (hx : vs[k]? = some x) : sumV p (vs.take (k + 1)) = sumV p (vs.take k) + if p x.1 then x.2 else 0 := by
  rw [take_at hx]
  unfold sumV
  rw [List.filter_append, List.map_append, List.sum_append]
  cases h : p x.1 <;> simp [h]
def SmallV (sz : Int) (vs : List Vt) : Prop := vs.length ≤ 24 ∧ ∀ x ∈ vs, rkOk sz x.1 = true ∧ 1 ≤ x.2 ∧ x.2 ≤ 1000
set_option maxRecDepth 100000 in
theorem prof_size {sz : Int} {vs : List Vt} (h : profOk sz vs = true) : 1 ≤ sz ∧ sz ≤ 5 := by
  simp only [profOk, Bool.and_eq_true] at h; exact inR_iff.1 h.1
set_option maxRecDepth 100000 in
theorem prof_small {sz : Int} {vs : List Vt} (h : profOk sz vs = true) : SmallV sz vs := by
  simp only [profOk, Bool.and_eq_true, decide_eq_true_eq] at h
  refine ⟨h.2.1, fun x hx => ?_⟩
  have h2 := List.all_eq_true.1 h.2.2 x hx
  simp only [vtOk, Bool.and_eq_true] at h2
  have h4 := inR_iff.1 h2.2
  exact ⟨h2.1, h4.1, h4.2⟩
set_option maxRecDepth 100000 in
theorem rk_len {m : Int} {xs : List Int} (h : rkOk m xs = true) : (xs.length : Int) = m ∧ xs.length ≤ 5 := by
  simp only [rkOk, Bool.and_eq_true, decide_eq_true_eq] at h
  have := inR_iff.1 h.1
  omega
set_option maxRecDepth 100000 in
theorem rk_mem {m : Int} {xs : List Int} (h : rkOk m xs = true) {x : Int} (hx : x ∈ xs) : 0 ≤ x ∧ x ≤ m - 1 := by
  simp only [rkOk, Bool.and_eq_true, decide_eq_true_eq] at h
  exact inR_iff.1 (List.all_eq_true.1 h.2.2.1 x hx)
set_option maxRecDepth 100000 in
theorem rk_nodup {m : Int} {xs : List Int} (h : rkOk m xs = true) : xs.Nodup := by
  simp only [rkOk, Bool.and_eq_true, decide_eq_true_eq] at h
  exact h.2.2.2
set_option maxRecDepth 100000 in
theorem sumV_bd {p : List Int → Bool} {sz : Int} {vs : List Vt} (h : SmallV sz vs) : ∀ k : Nat, k ≤ vs.length → 0 ≤ sumV p (vs.take k) ∧ sumV p (vs.take k) ≤ 1000 * k
  | 0, _ => by simp [sumV]
  | k + 1, hk => by
    obtain ⟨x, hx⟩ := at_of_lt (xs := vs) (k := k) (by omega)
    have h1 := sumV_bd h k (by omega) (p := p)
    have h2 := h.2 x (List.mem_of_getElem? hx)
    rw [sumV_at hx]
    split <;> omega
set_option maxRecDepth 100000 in
theorem sumV_bd' {p : List Int → Bool} {sz : Int} {vs : List Vt} (h : SmallV sz vs) : 0 ≤ sumV p vs ∧ sumV p vs ≤ 24000 := by
  have h1 := sumV_bd h vs.length (Nat.le_refl _) (p := p)
  rw [List.take_length] at h1
  have := h.1
  omega
def pairV (vs : List Vt) (a b : Int) : Int := sumV (fun r => prefB r a b) vs
def marginV (vs : List Vt) (a b : Int) : Int := pairV vs a b - pairV vs b a
def beatsV (vs : List Vt) (a b : Int) : Bool := decide (pairV vs b a < pairV vs a b)

set_option maxRecDepth 100000 in
set_option maxHeartbeats 1000000 in
theorem votersV (K : Nat) (fst cap : Array Value) (p : List Int → Bool) (w : World) (sz : Int) (a : Option Addr) (c : Nat) (vs : List Vt) (hR : RdV w a vs) (hS : SmallV sz vs) (hK : Enters Try.prog K)
    (hf : ∀ (x : Vt) (a' : Option Addr) (c' : Nat) (w' : World), x ∈ vs → Ext w w' → RdI w' a' x.1 → x.1.length ≤ c' → Calls Try.prog K (fst.push (.slice a' x.1.length c') ++ cap) w' fun e w'' => e = .returned (.bool (p x.1)) ∧ Ext w' w'') :
    Calls Try.prog 109 #[.agg #[.int .i64 sz, .slice a vs.length c], .func (.func K) fst cap] w fun e w' => e = .returned (.int .i64 (sumV p vs)) ∧ Ext w w' := by
  unfold Enters at hK
  have HF := hide hf
  clear hf
  have HS := hide hS
  have hl := hS.1
  clear hS
  go_enter Try.func109, Try.ntmps109
  go_wp2_with fail
  go_loopw [5, 7, 11] (fun s _ i wr => ∃ k : Nat, k ≤ vs.length ∧ i = .int .i64 k ∧ s = .int .i64 (sumV p (vs.take k)) ∧ Ext w wr) (fun _ _ i _ => vs.length - (intOf i).toNat)
  case atStart => exact ⟨0, Nat.zero_le _, rfl, rfl, (by repeat (first | exact Ext.refl _ | assumption | refine Ext.alloc ?_ _ | refine Ext.drew ?_ | refine Ext.trans ?_ (by assumption)))⟩
  case round =>
    obtain ⟨k, hk, rfl, rfl, hwr⟩ := hrel
    obtain ⟨b1, b2⟩ := sumV_bd HS.out k hk (p := p)
    by_cases hlt : k < vs.length
    · obtain ⟨x, hx⟩ := at_of_lt hlt
      obtain ⟨b, off, a', c', rfl, c0, c1, hc', hRx⟩ := (hR.ext hwr).at_ hx
      obtain ⟨_, x1, x2⟩ := HS.out.2 x (List.mem_of_getElem? hx)
      have HX := hide hx
      clear hx
      cases hp : p x.1
      all_goals
        go_wp2_with fail
        refine (HF.out x a' c' _ (List.mem_of_getElem? HX.out) (by repeat (first | exact Ext.refl _ | assumption | refine Ext.alloc ?_ _ | refine Ext.drew ?_ | refine Ext.trans ?_ (by assumption))) (hRx.ext (by repeat (first | exact Ext.refl _ | assumption | refine Ext.alloc ?_ _ | refine Ext.drew ?_ | refine Ext.trans ?_ (by assumption)))) hc').mono ?_
        rintro e w1 ⟨rfl, hw1⟩
        have e1 := hw1.keep (new1 wr _ _ _ _)
        go_wp2
      · exact ⟨⟨k + 1, by omega, by go_num, by rw [sumV_at HX.out, hp]; simp, (by repeat (first | exact Ext.refl _ | assumption | refine Ext.alloc ?_ _ | refine Ext.drew ?_ | refine Ext.trans ?_ (by assumption)))⟩, by simp [intOf]; omega⟩
      · exact ⟨⟨k + 1, by omega, by go_num, by rw [sumV_at HX.out, hp]; simp, (by repeat (first | exact Ext.refl _ | assumption | refine Ext.alloc ?_ _ | refine Ext.drew ?_ | refine Ext.trans ?_ (by assumption)))⟩, by simp [intOf]; omega⟩
    · go_wp2
      go_ret
      exact ⟨ret_int (by rw [List.take_of_length_le (by omega)]), hwr⟩

end Go.Proofs.Ythiojkpoeejkaaa
