/- Lists of lists built by appends. Appends that say where the new list lies: in its old block, or in a new one. -/
import Derived.Test.YthiojkpoeejkaaaCa6
namespace Go.Proofs.Ythiojkpoeejkaaa
open Go.RowKit

set_option maxRecDepth 100000 in
theorem info_row : (Try.prog.info? 29).map (fun i => (i.zero, i.size, i.bytes)) = some (some (.slice none 0 0), 1, 24) := by kernel_rfl
/-- v is a list of lists of the call's own, grown by appends. -/
def OwnSS (w : World) (B : Nat) (v : Value) (xss : List (List Int)) : Prop := ∃ cs : List Value, w.ownsRow B 29 1 v cs.length cs ∧ cs.length = xss.length ∧
  (∀ (j : Nat) (xs : List Int), xss[j]? = some xs → ∃ u, cs[j]? = some u ∧ OwnI w B u xs) ∧ (∀ (i j : Nat) (u u' : Value) (k : Nat), i ≠ j → cs[i]? = some u → cs[j]? = some u' → u.ownBlock = some k → u'.ownBlock ≠ some k)
set_option maxRecDepth 100000 in
theorem OwnSS.nil (w : World) (B : Nat) : OwnSS w B (.slice none 0 0) [] := ⟨[], World.ownsRow_nil _ _ _ _, rfl, fun j xs h => by simp at h, fun i j u u' k _ h => by simp at h⟩
set_option maxRecDepth 100000 in
theorem OwnSS.made0 (w : World) : OwnSS (w.alloc (.cells #[] 29)) w.heap.size (.slice (some ⟨w.heap.size, 0, none⟩) 0 0) [] :=
  ⟨[], ⟨rfl, .inr ⟨w.heap.size, 0, #[], rfl, Nat.le_refl _, heap_alloc_new _ _, Nat.le_refl _, by simp, rfl, rfl⟩⟩, rfl, fun j xs h => by simp at h, fun i j u u' k _ h => by simp at h⟩
set_option maxRecDepth 100000 in
theorem OwnSS.ext {w w' : World} {B : Nat} {v : Value} {xss : List (List Int)} (h : OwnSS w B v xss) (hw : Ext w w') : OwnSS w' B v xss := by
  obtain ⟨cs, h1, h2, h3, h4⟩ := h
  refine ⟨cs, ownsRow_ext h1 hw, h2, fun j xs hx => ?_, h4⟩
  obtain ⟨u, hu, ho⟩ := h3 j xs hx
  exact ⟨u, hu, ho.ext hw⟩
set_option maxRecDepth 100000 in
theorem OwnSS.base {w : World} {B B' : Nat} {v : Value} {xss : List (List Int)} (h : OwnSS w B v xss) (hb : B' ≤ B) : OwnSS w B' v xss := by
  obtain ⟨cs, h1, h2, h3, h4⟩ := h
  refine ⟨cs, ownsRow_base h1 hb, h2, fun j xs hx => ?_, h4⟩
  obtain ⟨u, hu, ho⟩ := h3 j xs hx
  exact ⟨u, hu, ho.base hb⟩
set_option maxRecDepth 100000 in
theorem own_ne {w : World} {B B' n : Nat} {u v : Value} {xs : List Int} {cs : List Value} (h : OwnI w B u xs) (h' : w.ownsRow B' 29 1 v n cs) : ∀ k, u.ownBlock = some k → v.ownBlock ≠ some k := by
  intro k hk hv
  obtain ⟨_, h⟩ := h
  obtain ⟨_, h'⟩ := h'
  rcases h with ⟨rfl, _⟩ | ⟨g, cap, cur, rfl, _, hh, _⟩
  · cases hk
  · rcases h' with ⟨rfl, _⟩ | ⟨g', cap', cur', rfl, _, hh', _⟩
    · cases hv
    · simp only [Value.ownBlock, Option.some.injEq] at hk hv
      subst hk
      subst hv
      rw [hh] at hh'
      injection hh' with hh'
      injection hh' with _ hh' _
      exact absurd hh' (by decide)
set_option maxRecDepth 100000 in
theorem own_ne' {w : World} {B B' n : Nat} {u v : Value} {xs : List Int} {cs : List Value} (h : OwnI w B u xs) (h' : w.ownsRow B' 29 1 v n cs) : u.ownBlock = none ∨ u.ownBlock ≠ v.ownBlock := by
  cases hu : u.ownBlock with
  | none => exact .inl rfl
  | some k => exact .inr (fun e => own_ne h h' k hu e.symm)
set_option maxRecDepth 100000 in
theorem OwnI.form {w : World} {B : Nat} {u : Value} {xs : List Int} (h : OwnI w B u xs) : ∃ a n c, u = .slice a n c := by
  obtain ⟨a, c, rfl, _⟩ := h.val
  exact ⟨_, _, _, rfl⟩
set_option maxRecDepth 100000 in
theorem OwnI.slice {w : World} {B : Nat} {u : Value} {xs : List Int} (h : OwnI w B u xs) : u.oneCell' = true := by
  obtain ⟨a, c, rfl, _⟩ := h.val
  rfl

set_option maxRecDepth 100000 in
theorem OwnSS.wr {w : World} {B : Nat} {v : Value} {xss : List (List Int)} (h : OwnSS w B v xss) : WrSS w B v xss := by
  obtain ⟨cs, h1, h2, h3, h4⟩ := h
  have h0 := h1
  obtain ⟨_, h5⟩ := h1
  rcases h5 with ⟨rfl, h5⟩ | ⟨g, cap, cur, rfl, hg, hh, hc, hm, hs, ht⟩
  · have : xss = [] := List.length_eq_zero_iff.1 (by omega)
    subst this
    exact WrSS.nil _ _ _ _
  · rw [h2]
    rw [h2] at h0
    have hl : g < w.heap.size := (World.ownsRow.lt h0 g rfl).2
    have hrow : ∀ o, o < xss.length → ∃ u, cs[o]? = some u ∧ OwnI w B u (xss.getD o []) := fun o ho => by
      obtain ⟨xs, hx⟩ := at_of_lt ho
      obtain ⟨u, hu, hO⟩ := h3 o xs hx
      exact ⟨u, hu, by simpa [List.getD, hx] using hO⟩
    have hcs : ∀ o u, cs[o]? = some u → cs.getD o undef = u := fun o u hu => by simp [List.getD, hu]
    refine ⟨some ⟨g, 0, none⟩, cap, rfl, by omega, fun _ => ⟨g, fun o => cs.getD o undef, rfl, hg, ⟨hl, fun o => World.ownsRow.frozenAt h0 o, fun o ho => ?_⟩, fun o ho => ?_, fun o ho => ?_, fun o o' k ho ho' hne hk => ?_⟩⟩
    · rw [World.ownsRow.cellAt h0 o (by omega)]
      obtain ⟨u, hu, _⟩ := hrow o ho
      rw [hu, hcs o u hu]
    · obtain ⟨u, hu, hO⟩ := hrow o ho
      show OwnI w B (cs.getD o undef) _
      rw [hcs o u hu]; exact hO
    · obtain ⟨u, hu, hO⟩ := hrow o ho
      show (cs.getD o undef).ownBlock ≠ _
      rw [hcs o u hu]
      exact fun e => own_ne hO h0 g e rfl
    · obtain ⟨u, hu, _⟩ := hrow o ho
      obtain ⟨u', hu', _⟩ := hrow o' ho'
      show (cs.getD o' undef).ownBlock ≠ _
      rw [hcs o' u' hu']
      have hk' : (cs.getD o undef).ownBlock = some k := hk
      rw [hcs o u hu] at hk'
      exact h4 o o' u u' k hne hu hu' hk'

set_option maxRecDepth 100000 in
theorem wpList_appS {ops : Array Oper} {rest : List Oper} {o : Oper} {a : Act} {Q : Exit → Act → World → Prop} (W0 w0 w3 : World) (hgd : o.guard = none) (s x : Operand)
    (ho : o.op = .call { callee := .builtin .append, args := #[s, x], argTypes := #[55, 55] }) (v : Value) (xss : List (List Int)) (u : Value) (xs : List Int) (hs : a.eval s = v)
    (hown : OwnSS w0 W0.heap.size v xss) (hW0 : Ext W0 w0) (hw : Ext w0 w3) (hu : OwnI w3 w0.heap.size u xs)
    (hx : a.eval x = .slice (some ⟨w3.heap.size, 0, none⟩) 1 1) (hlen : xss.length ≤ 2000000)
    (h : ∀ v' w', OwnSS w' W0.heap.size v' (xss ++ [xs]) → Ext W0 w' → wpList Try.prog ops Q rest (a.put o.dst v') w') : wpList Try.prog ops Q (o :: rest) a (w3.alloc (.cells #[u] 29)) := by
  obtain ⟨i0, hi, hz0, hz1, hz2⟩ := info_parts info_row
  obtain ⟨cs, h1, h2, h3, h4⟩ := hown
  have h1a := ownsRow_ext h1 (hw.alloc (.cells #[u] 29))
  have hW3 : Ext W0 (w3.alloc (.cells #[u] 29)) := (hW0.trans hw).alloc _
  refine wpList_append_own _ hgd s x 55 ho W0.heap.size 29 i0 (.slice none 0 0) 1 24 Try.underlying55 hi hz0 hz1 hz2 rfl (by decide) v cs.length _ hs h1a ⟨w3.heap.size, 0, none⟩ 1 1 [u] hx rfl ?_ ?_ ?_ ?_ hW3.size ?_
  · intro j z hj
    match j, hj with
    | 0, hj => simp at hj; subst hj; simp [Addr.add]
  · intro z hz; simp at hz; subst hz; exact hu.slice
  · unfold maxLen; omega
  · omega
  · intro v' w' h5 h6 _
    have huw := hu.ext (Ext.new w3 (.cells #[u] 29))
    refine h v' w' ⟨cs ++ [u], by simpa using h5, by simp [h2], fun j ys hy => ?_, fun i j z z' k hne hz hz' hk => ?_⟩ (hW3.grown h6 (ownsRow_block h1a))
    · rcases Nat.lt_or_ge j xss.length with hlt | hge
      · rw [List.getElem?_append_left hlt] at hy
        obtain ⟨z, hz, hO⟩ := h3 j ys hy
        refine ⟨z, by rw [List.getElem?_append_left (by omega)]; exact hz, ?_⟩
        have hO' := hO.ext (hw.alloc (.cells #[u] 29))
        exact hO'.keepRow h6 (own_ne' hO' h1a)
      · rw [List.getElem?_append_right hge] at hy
        have hj : j - xss.length = 0 := by have := lt_of_at hy; simp at this; omega
        rw [hj] at hy
        simp at hy
        subst hy
        refine ⟨u, by rw [List.getElem?_append_right (by omega), h2, hj]; rfl, ?_⟩
        exact (huw.keepRow h6 (own_ne' huw h1a)).base hW0.size
    · have low : ∀ (i : Nat) (z : Value) (k : Nat), cs[i]? = some z → z.ownBlock = some k → k < w0.heap.size := fun i z k hz hk => by
        obtain ⟨ys, hy⟩ := at_of_lt (xs := xss) (k := i) (by have := lt_of_at hz; omega)
        obtain ⟨z', hz', hO⟩ := h3 i ys hy
        rw [hz] at hz'
        injection hz' with hz'
        subst hz'
        exact (World.ownsRow.lt hO k hk).2
      have new : ∀ k, u.ownBlock = some k → w0.heap.size ≤ k := fun k hk => (World.ownsRow.lt hu k hk).1
      rcases Nat.lt_or_ge i cs.length with hil | hil
      · rw [List.getElem?_append_left hil] at hz
        rcases Nat.lt_or_ge j cs.length with hjl | hjl
        · rw [List.getElem?_append_left hjl] at hz'
          exact h4 i j z z' k hne hz hz' hk
        · rw [List.getElem?_append_right hjl] at hz'
          have hj : j - cs.length = 0 := by have := lt_of_at hz'; simp at this; omega
          rw [hj] at hz'
          simp at hz'
          subst hz'
          intro e
          have := low i z k hz hk
          have := new k e
          omega
      · rw [List.getElem?_append_right hil] at hz
        have hi0 : i - cs.length = 0 := by have := lt_of_at hz; simp at this; omega
        rw [hi0] at hz
        simp at hz
        subst hz
        rcases Nat.lt_or_ge j cs.length with hjl | hjl
        · rw [List.getElem?_append_left hjl] at hz'
          intro e
          have := low j z' k hz' e
          have := new k hk
          omega
        · rw [List.getElem?_append_right hjl] at hz'
          have hj0 : j - cs.length = 0 := by have := lt_of_at hz'; simp at this; omega
          omega

set_option maxRecDepth 100000 in
/-- One integer appended inside a drawn region, to a list anywhere. -/
theorem oper_appB {o : Oper} {a : Act} {K : World → Act → Prop} (B : Nat) (w3 : World) (hgd : o.guard = none) (s x : Operand)
    (ho : o.op = .call { callee := .builtin .append, args := #[s, x], argTypes := #[29, 29] }) (v : Value) (xs : List Int) (y : Int) (gx : Nat) (hs : a.eval s = v) (hown : OwnI w3 B v xs) (hW : B ≤ w3.heap.size)
    (hx : a.eval x = .slice (some ⟨gx, 0, none⟩) 1 1) (hc : w3.cell? ⟨gx, 0, none⟩ = some (.int .i64 y)) (hlen : xs.length ≤ 2000000)
    (h : ∀ v' w', OwnI w' B v' (xs ++ [y]) → w3.grownBy w' v.ownBlock → K w' (a.put o.dst v')) : o.wp Try.prog a w3 (fun a' w' => K w' a') NoExit := by
  obtain ⟨i0, hi, hz0, hz1, hz2⟩ := info_parts info_int
  have h1 : wpList Try.prog #[] (fun e a w => e = .normal ∧ K w a) [o] a w3 := by
    refine wpList_append_own _ hgd s x 29 ho B 3 i0 (.int .i64 0) 1 8 Try.underlying29 hi hz0 hz1 hz2 rfl (by decide) v xs.length _ hs hown ⟨gx, 0, none⟩ 1 1 [.int .i64 y] hx rfl ?_ ?_ ?_ ?_ hW ?_
    · intro j u hj
      match j, hj with
      | 0, hj => simp at hj; subst hj; simpa [Addr.add] using hc
    · intro u hu; simp at hu; subst hu; rfl
    · unfold maxLen; omega
    · omega
    · intro v' w' h1 h2 _
      refine ⟨rfl, h v' w' ?_ h2⟩
      unfold OwnI
      simpa using h1
  unfold wpList at h1
  split at h1
  · rcases h1 with h1 | ⟨_, _, _, h1, _⟩
    · exact oper_no h1
    · cases h1
  · rename_i hw
    exact absurd (by simp [Region.wanted, hgd]) hw

set_option maxRecDepth 100000 in
theorem grown_ext {w w' w'' : World} {row : Option Nat} (h : w.grownBy w' row) (k : Ext w' w'') : w.grownBy w'' row :=
  ⟨k.os.trans h.os, k.tape.trans h.tape, k.output.trans h.output, Nat.le_trans h.size k.size, fun i hi hne => (Below.block k i (Nat.lt_of_lt_of_le hi h.size)).trans (h.block i hi hne)⟩

/-- A matrix whose row k is being filled by appends, its cells from H on. -/
structure MatK (w : World) (B H g n k : Nat) (us : Nat → Value) (rows : Nat → List Int) : Prop where
  mat : Mat w B g n us rows
  cur : OwnI w H (us k) (rows k)
  low : B ≤ H
  size : H ≤ w.heap.size
  gH : g < H
  oth : ∀ o b, o < n → o ≠ k → (us o).ownBlock = some b → b < H
set_option maxRecDepth 100000 in
theorem MatK.ext {w w' : World} {B H g n k : Nat} {us : Nat → Value} {rows : Nat → List Int} (h : MatK w B H g n k us rows) (hw : Ext w w') : MatK w' B H g n k us rows :=
  ⟨h.mat.ext hw, h.cur.ext hw, h.low, Nat.le_trans h.size hw.size, h.gH, h.oth⟩
set_option maxRecDepth 100000 in
/-- Row k, still empty, is begun. -/
theorem Mat.begin {w : World} {B g n k : Nat} {us : Nat → Value} {rows : Nat → List Int} (h : Mat w B g n us rows) (hu : us k = .slice none 0 0) (hr : rows k = []) : MatK w B w.heap.size g n k us rows :=
  ⟨h, by rw [hu, hr]; exact OwnI.nil _ _, Nat.le_trans h.base (Nat.le_of_lt h.outer.lt), Nat.le_refl _, h.outer.lt, fun o b ho _ hb => (World.ownsRow.lt (h.row o ho) b hb).2⟩
set_option maxRecDepth 100000 in
theorem MatK.app {w w' wz : World} {B H g n k : Nat} {us : Nat → Value} {rows : Nat → List Int} (h : MatK w B H g n k us rows) (hk : k < n) {v' : Value} {xs : List Int} (hv : OwnI w' H v' xs) (hg : w.grownBy w' (us k).ownBlock) (hz : Ext w' wz) :
    MatK (wz.setCell ⟨g, k, none⟩ v') B H g n k (fun o => if o = k then v' else us o) (fun o => if o = k then xs else rows o) := by
  have hgz := grown_ext hg hz
  have hvz := hv.ext hz
  have hnew : ∀ b, v'.ownBlock = some b → H ≤ b := fun b hb => (World.ownsRow.lt hv b hb).1
  have hold : ∀ b, (us k).ownBlock = some b → H ≤ b := fun b hb => (World.ownsRow.lt h.cur b hb).1
  have hgh := h.gH
  have far : ∀ b, H ≤ b → b ≠ g ∧ ∀ o, o < n → o ≠ k → (us o).ownBlock ≠ some b := fun b hb => ⟨by omega, fun o ho hne e => by have := h.oth o b ho hne e; omega⟩
  refine ⟨h.mat.put hk hgz (fun b hb => far b (hold b hb)) (hvz.base h.low) (fun b hb => far b (hnew b hb)), ?_, h.low, ?_, hgh, fun o b ho hne hb => ?_⟩
  · rw [if_pos rfl, if_pos rfl]
    exact hvz.keepRow (setCell_row wz g k v') (by
      cases hb : v'.ownBlock with
      | none => exact .inl rfl
      | some b => exact .inr (fun e => by have := hnew b hb; injection e with e; omega))
  · have h1 := h.size
    have h2 := hgz.size
    simp [World.setCell]; omega
  · rw [if_neg hne] at hb
    exact h.oth o b ho hne hb

/-- The list lies where it lay, or in memory that was not there. -/
def Fresh (w : World) (v v' : Value) : Prop := v'.ownBlock = v.ownBlock ∨ ∀ k, v'.ownBlock = some k → w.heap.size ≤ k

set_option maxRecDepth 100000 in
theorem run_append_fresh {P : Program} (w : World) (base : Nat) (t ty e : TypeId) (i : TypeInfo) (z : Value) (size bytes : Nat) (ht : P.underlying t = some (.slice e)) (hi : P.info? e = some i) (hz : i.zero = some z)
    (hsize : i.size = size) (hby : i.bytes = bytes) (hzs : z.cells.size = size) (hsz : 0 < size)
    (v : Value) (n : Nat) (xs : List Value) (hown : w.ownsRow base e size v n xs)
    (a : Addr) (m c : Nat) (news : List Value) (hl : news.length = m * size) (hnews : ∀ (j : Nat) u, news[j]? = some u → w.cell? (a.add j) = some u) (h1 : ∀ u ∈ news, u.oneCell' = true) (hm : 0 < m)
    (h63 : n + m ≤ maxLen) (hbytes : (n + m) * bytes ≤ 140737488355328) (hbase : base ≤ w.heap.size) :
    ∃ v' w', (Builtin.append_ #[t, t] ty #[v, .slice (some a) m c]).run P w = .ok v' w' ∧ w'.ownsRow base e size v' (n + m) (xs ++ news) ∧ w.grownBy w' v.ownBlock ∧ Fresh w v v' := by
  obtain ⟨v', w', hr, h2, h3, _⟩ := run_append_own (P := P) w base t ty e i z size bytes ht hi hz hsize hby hzs hsz v n xs hown a m c news hl hnews h1 h63 hbytes hbase
  refine ⟨v', w', hr, h2, h3, ?_⟩
  subst hsize
  subst hby
  have hmx : n + m ≤ 9223372036854775807 := by simp only [maxLen] at h63; omega
  rcases hown.2 with ⟨rfl, rfl⟩ | ⟨g, cap, cur, rfl, hbg, hg, hnc, hcm, hcs, htake⟩
  · have hr2 := run_append_nil (P := P) w t ty e i z ht hi hz a m c news hl hnews hm (by omega) (by have hb := hbytes; simp only [Nat.zero_add] at hb; omega)
    rw [hr] at hr2
    injection hr2 with e1 e2
    subst e1
    exact .inr (fun k hk => by simp only [Value.ownBlock, Option.some.injEq] at hk; omega)
  · by_cases hroom : n + m ≤ cap
    · have hfit : n * i.size + news.length ≤ cur.size := by rw [hl, hcs, ← Nat.add_mul]; exact Nat.mul_le_mul_right _ hroom
      have hr2 := run_append_room (P := P) w t ty e i ht hi g n cap cur hg a m c news hl hnews h1 hroom hfit
      rw [hr] at hr2
      injection hr2 with e1 e2
      subst e1
      exact .inl rfl
    · have holds : ∀ (j : Nat) u, xs[j]? = some u → w.cell? ((⟨g, 0, none⟩ : Addr).add j) = some u := hown.cells (g := g) rfl
      have hr2 := run_append_grow (P := P) w t ty e i z ht hi hz ⟨g, 0, none⟩ n cap xs hown.1 holds a m c news hl hnews (by omega) (by omega) (growslice_fits (by omega) hbytes)
      rw [hr] at hr2
      injection hr2 with e1 e2
      subst e1
      exact .inr (fun k hk => by simp only [Value.ownBlock, Option.some.injEq] at hk; omega)

set_option maxRecDepth 100000 in
theorem wpList_appF {ops : Array Oper} {rest : List Oper} {o : Oper} {a : Act} {Q : Exit → Act → World → Prop} (B : Nat) (w3 : World) (hgd : o.guard = none) (s x : Operand)
    (ho : o.op = .call { callee := .builtin .append, args := #[s, x], argTypes := #[29, 29] }) (v : Value) (xs : List Int) (y : Int) (hs : a.eval s = v) (hown : OwnI w3 B v xs) (hB : B ≤ w3.heap.size)
    (hx : a.eval x = .slice (some ⟨w3.heap.size, 0, none⟩) 1 1) (hlen : xs.length ≤ 2000000)
    (h : ∀ v' w', OwnI w' B v' (xs ++ [y]) → w3.grownBy w' v.ownBlock → Fresh w3 v v' → wpList Try.prog ops Q rest (a.put o.dst v') w') : wpList Try.prog ops Q (o :: rest) a (w3.alloc (.cells #[.int .i64 y] 3)) := by
  obtain ⟨i0, hi, hz0, hz1, hz2⟩ := info_parts info_int
  have hown3 := hown.ext (Ext.new w3 (.cells #[.int .i64 y] 3))
  obtain ⟨v', w', hr, h1, h2, h3⟩ := run_append_fresh (P := Try.prog) (w3.alloc (.cells #[.int .i64 y] 3)) B 29 o.type 3 i0 (.int .i64 0) 1 8 Try.underlying29 hi hz0 hz1 hz2 rfl (by decide) v xs.length _ hown3 ⟨w3.heap.size, 0, none⟩ 1 1 [.int .i64 y] rfl
    (fun j u hj => by
      match j, hj with
      | 0, hj => simp at hj; subst hj; simp [Addr.add])
    (fun u hu => by simp at hu; subst hu; rfl) (by decide) (by unfold maxLen; omega) (by omega) (by simp; omega)
  refine wpList_plain hgd fun K hK => ?_
  unfold Oper.wp execOp
  simp only [ho, resolve, invoke, builtin, Sem.run_bind, Sem.run_pure, Result.andThen_ok, List.map_toArray, List.map_cons, List.map_nil, hs, hx, hr]
  refine hK _ _ (h v' w' ?_ ?_ ?_)
  · unfold OwnI
    simpa using h1
  · exact ⟨h2.os, h2.tape, h2.output, Nat.le_trans (by simp) h2.size, fun k hk hne => (h2.block k (by simp; omega) hne).trans (Below.block (Ext.new w3 (.cells #[.int .i64 y] 3)) k hk)⟩
  · rcases h3 with h3 | h3
    · exact .inl h3
    · exact .inr (fun k hk => by have := h3 k hk; simp at this; omega)

/-- Blocks from lo on and below hi are as they were. -/
def Keeps (lo hi : Nat) (w w' : World) : Prop := w.heap.size ≤ w'.heap.size ∧ ∀ k, lo ≤ k → k < hi → w'.heap[k]? = w.heap[k]?
set_option maxRecDepth 100000 in
theorem Keeps.refl (lo hi : Nat) (w : World) : Keeps lo hi w w := ⟨Nat.le_refl _, fun _ _ _ => rfl⟩
set_option maxRecDepth 100000 in
theorem Keeps.ext {lo hi : Nat} {w w' w'' : World} (h : Keeps lo hi w w') (hw : Ext w' w'') (hh : hi ≤ w'.heap.size) : Keeps lo hi w w'' :=
  ⟨Nat.le_trans h.1 hw.size, fun k h1 h2 => (Below.block hw k (by omega)).trans (h.2 k h1 h2)⟩
set_option maxRecDepth 100000 in
theorem Keeps.grown {lo hi : Nat} {w w' w'' : World} {row : Option Nat} (h : Keeps lo hi w w') (hg : w'.grownBy w'' row) (hh : hi ≤ w'.heap.size) (hr : ∀ k, row = some k → k < lo ∨ hi ≤ k) : Keeps lo hi w w'' :=
  ⟨Nat.le_trans h.1 hg.size, fun k h1 h2 => (hg.block k (by omega) (fun e => by have := hr k e.symm; omega)).trans (h.2 k h1 h2)⟩
set_option maxRecDepth 100000 in
theorem Fresh.out {w : World} {v v' : Value} {lo hi : Nat} (h : Fresh w v v') (hv : ∀ k, v.ownBlock = some k → k < lo ∨ hi ≤ k) (hh : hi ≤ w.heap.size) : ∀ k, v'.ownBlock = some k → k < lo ∨ hi ≤ k := fun k hk => by
  rcases h with h | h
  · exact hv k (by rw [← h]; exact hk)
  · have := h k hk; omega
set_option maxRecDepth 100000 in
theorem OwnI.keeps {w w' : World} {B hi : Nat} {v : Value} {xs : List Int} (h : OwnI w B v xs) (hw : Keeps B hi w w') (hb : ∀ k, v.ownBlock = some k → k < hi) : OwnI w' B v xs := by
  obtain ⟨h1, h2⟩ := h
  refine ⟨h1, ?_⟩
  rcases h2 with h2 | ⟨g, cap, cur, rfl, hg, hh, r⟩
  · exact .inl h2
  · exact .inr ⟨g, cap, cur, rfl, hg, by rw [hw.2 g hg (hb g rfl)]; exact hh, r⟩
set_option maxRecDepth 100000 in
theorem Mat.keeps {w w' : World} {B hi g n : Nat} {us : Nat → Value} {rows : Nat → List Int} (h : Mat w B g n us rows) (hw : Keeps B hi w w') (hh : w.heap.size ≤ hi) : Mat w' B g n us rows := by
  have hl := h.outer.lt
  have hg := hw.2 g h.base (by omega)
  exact ⟨h.base, ⟨Nat.lt_of_lt_of_le hl hw.1, fun o => (World.frozen?_of_block (w := w) hg).trans (h.outer.fr o), fun o ho => (World.cell?_of_block (w := w) hg).trans (h.outer.cell o ho)⟩,
    fun o ho => (h.row o ho).keeps hw (fun k hk => Nat.lt_of_lt_of_le (World.ownsRow.lt (h.row o ho) k hk).2 hh), h.far, h.dis⟩
set_option maxRecDepth 100000 in
theorem WrSS.keeps {w w' : World} {B hi : Nat} {v : Value} {xss : List (List Int)} (h : WrSS w B v xss) (hw : Keeps B hi w w') (hh : w.heap.size ≤ hi) : WrSS w' B v xss := by
  obtain ⟨a, c, hv, hc, ho⟩ := h
  refine ⟨a, c, hv, hc, fun hne => ?_⟩
  obtain ⟨g, us, ha, hM⟩ := ho hne
  exact ⟨g, us, ha, hM.keeps hw hh⟩

end Go.Proofs.Ythiojkpoeejkaaa
