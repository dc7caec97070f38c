/- Single-peaked profiles: the tests of both packages. A whole list appended to an own list. A whole list appended to a list of the call's own, wherever it lies (also an empty one that lies nowhere). slices.Concat of two lists of integers. How many rank a candidate behind, or before, all others that are left. Eliminations, as lists: who goes next, and in which order all go. All orders of a list: the two ways of naming them answer alike (plain law). A row appended to an own matrix, with the frame told. -/
import Derived.Test.YtkbbcglghfddjaaCg9
import Derived.Test.YtkbbcglghfddjaaCg5
import Derived.Lib.AppendZeros
import Derived.Test.YtkbbcglghfddjaaCg8
import Derived.Test.YtkbbcglghfddjaaCg4
namespace Go.Proofs.Ytkbbcglghfddjaa
open Go.RowKit

def pkpB (sz : Int) (ax : List Int) (vs : List Vt) : Bool := profOk sz vs && (rkOk sz ax && vs.all (fun x => pkO ax x.1))

set_option maxRecDepth 100000 in
set_option maxHeartbeats 1000000 in
theorem pkOne (w : World) (sz : Int) (gx : Nat) (a2 : Option Addr) (c2 : Nat) (ax : List Int) (a' : Option Addr) (c' : Nat) (x : Vt) (hRx : RdI w a' x.1) (hc' : x.1.length ≤ c') (hR2 : RdI w a2 ax) (hc2 : ax.length ≤ c2)
    (h0 : w.cell? ⟨gx, 0, none⟩ = some (.slice a2 ax.length c2)) (hx : rkOk sz x.1 = true) (ha : rkOk sz ax = true) (h1 : 1 ≤ sz) :
    Calls Try.prog 55 #[.agg #[.slice a' x.1.length c', .int .i64 x.2], .pointer (some ⟨gx, 0, none⟩)] w fun e w' => e = .returned (.bool (!pkO ax x.1)) ∧ Ext w w' := by
  obtain ⟨n, rfl⟩ := Int.eq_ofNat_of_zero_le (show 0 ≤ sz by omega)
  have e0 := new0 w (.slice a' x.1.length c') [.int .i64 x.2] 59
  go_enter Try.func55, Try.ntmps55
  go_wp2_with (go_at_call 29; refine (pk_impl _ _ _ _ _ n _ _ (hRx.ext (by repeat (first | exact Ext.refl _ | assumption | refine Ext.alloc ?_ _ | refine Ext.drew ?_ | refine Ext.trans ?_ (by assumption)))) hc' (hR2.ext (by repeat (first | exact Ext.refl _ | assumption | refine Ext.alloc ?_ _ | refine Ext.drew ?_ | refine Ext.trans ?_ (by assumption)))) hc2 hx ha).mono ?_; rintro e w1 ⟨rfl, hw1⟩)
  go_ret
  exact ⟨rfl, (by repeat (first | exact Ext.refl _ | assumption | refine Ext.alloc ?_ _ | refine Ext.drew ?_ | refine Ext.trans ?_ (by assumption)))⟩

set_option maxRecDepth 100000 in
set_option maxHeartbeats 2000000 in
theorem pkp_impl (w : World) (sz : Int) (a a2 : Option Addr) (c c2 : Nat) (vs : List Vt) (ax : List Int) (hR : RdV w a vs) (hR2 : RdI w a2 ax) (hc2 : ax.length ≤ c2) :
    Calls Try.prog 22 #[.agg #[.int .i64 sz, .slice a vs.length c], .slice a2 ax.length c2] w fun e w' => e = .returned (.bool (pkpB sz ax vs)) ∧ Ext w w' := by
  have q0 := new0 w (.int .i64 sz) [.slice a vs.length c] 26
  have q1 := new1 w (.int .i64 sz) (.slice a vs.length c) [] 26
  have p0 := new0 (w.alloc (.cells #[.int .i64 sz, .slice a vs.length c] 26)) (.slice a2 ax.length c2) [] 31
  rw [show (w.alloc (.cells #[.int .i64 sz, .slice a vs.length c] 26)).heap.size = w.heap.size + 1 by simp] at p0
  cases h0 : profOk sz vs
  · go_enter Try.func22, Try.ntmps22
    go_wp2_with (go_at_call 17; refine (prof_impl _ _ _ _ _ (hR.ext (by repeat (first | exact Ext.refl _ | assumption | refine Ext.alloc ?_ _ | refine Ext.drew ?_ | refine Ext.trans ?_ (by assumption))))).mono ?_; rintro e w1 ⟨rfl, hw1⟩; have q0 := Ext.keep (w' := w1) (by repeat (first | exact Ext.refl _ | assumption | refine Ext.alloc ?_ _ | refine Ext.drew ?_ | refine Ext.trans ?_ (by assumption))) q0; have q1 := Ext.keep (w' := w1) (by repeat (first | exact Ext.refl _ | assumption | refine Ext.alloc ?_ _ | refine Ext.drew ?_ | refine Ext.trans ?_ (by assumption))) q1; have p0 := Ext.keep (w' := w1) (by repeat (first | exact Ext.refl _ | assumption | refine Ext.alloc ?_ _ | refine Ext.drew ?_ | refine Ext.trans ?_ (by assumption))) p0)
    go_ret
    exact ⟨ret_bool (by simp [pkpB, h0]), (by repeat (first | exact Ext.refl _ | assumption | refine Ext.alloc ?_ _ | refine Ext.drew ?_ | refine Ext.trans ?_ (by assumption)))⟩
  cases h1 : rkOk sz ax
  · go_enter Try.func22, Try.ntmps22
    go_wp2_with (first | (go_at_call 17; refine (prof_impl _ _ _ _ _ (hR.ext (by repeat (first | exact Ext.refl _ | assumption | refine Ext.alloc ?_ _ | refine Ext.drew ?_ | refine Ext.trans ?_ (by assumption))))).mono ?_; rintro e w1 ⟨rfl, hw1⟩; have q0 := Ext.keep (w' := w1) (by repeat (first | exact Ext.refl _ | assumption | refine Ext.alloc ?_ _ | refine Ext.drew ?_ | refine Ext.trans ?_ (by assumption))) q0; have q1 := Ext.keep (w' := w1) (by repeat (first | exact Ext.refl _ | assumption | refine Ext.alloc ?_ _ | refine Ext.drew ?_ | refine Ext.trans ?_ (by assumption))) q1; have p0 := Ext.keep (w' := w1) (by repeat (first | exact Ext.refl _ | assumption | refine Ext.alloc ?_ _ | refine Ext.drew ?_ | refine Ext.trans ?_ (by assumption))) p0) | (go_at_call 42; refine (rank_impl _ _ _ _ _ (hR2.ext (by repeat (first | exact Ext.refl _ | assumption | refine Ext.alloc ?_ _ | refine Ext.drew ?_ | refine Ext.trans ?_ (by assumption)))) hc2).mono ?_; rintro e w1 ⟨rfl, hw1⟩; have q0 := Ext.keep (w' := w1) (by repeat (first | exact Ext.refl _ | assumption | refine Ext.alloc ?_ _ | refine Ext.drew ?_ | refine Ext.trans ?_ (by assumption))) q0; have q1 := Ext.keep (w' := w1) (by repeat (first | exact Ext.refl _ | assumption | refine Ext.alloc ?_ _ | refine Ext.drew ?_ | refine Ext.trans ?_ (by assumption))) q1; have p0 := Ext.keep (w' := w1) (by repeat (first | exact Ext.refl _ | assumption | refine Ext.alloc ?_ _ | refine Ext.drew ?_ | refine Ext.trans ?_ (by assumption))) p0))
    go_ret
    exact ⟨ret_bool (by simp [pkpB, h1]), (by repeat (first | exact Ext.refl _ | assumption | refine Ext.alloc ?_ _ | refine Ext.drew ?_ | refine Ext.trans ?_ (by assumption)))⟩
  have HS := hide (prof_small h0)
  have hvl := (prof_small h0).1
  obtain ⟨s1, _⟩ := prof_size h0
  have hpb : pkpB sz ax vs = vs.all (fun x => pkO ax x.1) := by simp [pkpB, h0, h1]
  have HPB := hide hpb
  clear hpb
  obtain ⟨gx, hgx⟩ : ∃ gx : Nat, gx = w.heap.size + 1 := ⟨_, rfl⟩
  have HC := hide (fun (w1 : World) (hw1 : Ext w w1) (h2 : w1.cell? ⟨gx, 0, none⟩ = some (.slice a2 ax.length c2)) =>
      containsFuncV 55 #[] #[.pointer (some ⟨gx, 0, none⟩)] (fun x => !pkO ax x.1) w1 a c vs (hR.ext hw1) (by omega) (fun _ _ => Try.call55 _ _)
        (fun x a' c' w' hx hw' hRx hc' => pkOne w' sz gx a2 c2 ax a' c' x hRx hc' (hR2.ext (hw1.trans hw')) hc2 (hw'.keep h2) (HS.out.2 x hx).1 h1 s1))
  rw [hgx] at HC
  clear hgx
  go_enter Try.func22, Try.ntmps22
  go_wp2_with (first | (go_at_call 17; refine (prof_impl _ _ _ _ _ (hR.ext (by repeat (first | exact Ext.refl _ | assumption | refine Ext.alloc ?_ _ | refine Ext.drew ?_ | refine Ext.trans ?_ (by assumption))))).mono ?_; rintro e w1 ⟨rfl, hw1⟩; have q0 := Ext.keep (w' := w1) (by repeat (first | exact Ext.refl _ | assumption | refine Ext.alloc ?_ _ | refine Ext.drew ?_ | refine Ext.trans ?_ (by assumption))) q0; have q1 := Ext.keep (w' := w1) (by repeat (first | exact Ext.refl _ | assumption | refine Ext.alloc ?_ _ | refine Ext.drew ?_ | refine Ext.trans ?_ (by assumption))) q1; have p0 := Ext.keep (w' := w1) (by repeat (first | exact Ext.refl _ | assumption | refine Ext.alloc ?_ _ | refine Ext.drew ?_ | refine Ext.trans ?_ (by assumption))) p0) | (go_at_call 42; refine (rank_impl _ _ _ _ _ (hR2.ext (by repeat (first | exact Ext.refl _ | assumption | refine Ext.alloc ?_ _ | refine Ext.drew ?_ | refine Ext.trans ?_ (by assumption)))) hc2).mono ?_; rintro e w1 ⟨rfl, hw1⟩; have q0 := Ext.keep (w' := w1) (by repeat (first | exact Ext.refl _ | assumption | refine Ext.alloc ?_ _ | refine Ext.drew ?_ | refine Ext.trans ?_ (by assumption))) q0; have q1 := Ext.keep (w' := w1) (by repeat (first | exact Ext.refl _ | assumption | refine Ext.alloc ?_ _ | refine Ext.drew ?_ | refine Ext.trans ?_ (by assumption))) q1; have p0 := Ext.keep (w' := w1) (by repeat (first | exact Ext.refl _ | assumption | refine Ext.alloc ?_ _ | refine Ext.drew ?_ | refine Ext.trans ?_ (by assumption))) p0))
  refine (HC.out _ (by repeat (first | exact Ext.refl _ | assumption | refine Ext.alloc ?_ _ | refine Ext.drew ?_ | refine Ext.trans ?_ (by assumption))) p0).mono ?_
  rintro e w2 ⟨rfl, hw2⟩
  go_wp2
  go_ret
  exact ⟨ret_bool (by rw [HPB.out, any_not]; simp), (by repeat (first | exact Ext.refl _ | assumption | refine Ext.alloc ?_ _ | refine Ext.drew ?_ | refine Ext.trans ?_ (by assumption)))⟩

set_option maxRecDepth 100000 in
theorem wpList_appAll {ops : Array Oper} {rest : List Oper} {o : Oper} {a : Act} {Q : Exit → Act → World → Prop} (B : Nat) (w3 : World) (hgd : o.guard = none) (s x : Operand)
    (ho : o.op = .call { callee := .builtin .append, args := #[s, x], argTypes := #[31, 31] }) (v : Value) (xs ys : List Int) (hs : a.eval s = v) (hown : OwnI w3 B v xs) (hB : B ≤ w3.heap.size)
    (b off n c : Nat) (hn : n = ys.length) (hx : a.eval x = .slice (some ⟨b, off, none⟩) n c) (hR : RdI w3 (some ⟨b, off, none⟩) ys) (hlen : xs.length + ys.length ≤ 2000000)
    (h : ∀ v' w', OwnI w' B v' (xs ++ ys) → w3.grownBy w' v.ownBlock → wpList Try.prog ops Q rest (a.put o.dst v') w') : wpList Try.prog ops Q (o :: rest) a w3 := by
  obtain ⟨i0, hi, hz0, hz1, hz2⟩ := info_parts info_int
  subst hn
  obtain ⟨v', w', hr, h1, h2, _⟩ := run_append_own (P := Try.prog) w3 B 31 o.type 3 i0 (.int .i64 0) 1 8 Try.underlying31 hi hz0 hz1 hz2 rfl (by decide) v xs.length _ hown ⟨b, off, none⟩ ys.length c (ys.map (Value.int .i64)) (by simp)
    (fun j u hj => by
      rw [List.getElem?_map, Option.map_eq_some_iff] at hj
      obtain ⟨y, hy, rfl⟩ := hj
      obtain ⟨b', off', e, hc⟩ := hR.at_ hy
      injection e with e
      injection e with e1 e2
      subst e1 e2
      by_cases hj0 : j = 0
      · subst hj0
        simpa [Addr.add] using hc
      · simpa [Addr.add, hj0] using hc)
    (fun u hu => by
      obtain ⟨y, _, rfl⟩ := List.mem_map.1 hu
      rfl) (by unfold maxLen; omega) (by omega) hB
  refine wpList_plain hgd fun K hK => ?_
  unfold Oper.wp execOp
  simp only [ho, resolve, invoke, builtin, Sem.run_bind, Sem.run_pure, Result.andThen_ok, List.map_toArray, List.map_cons, List.map_nil, hs, hx, hr]
  refine hK _ _ (h v' w' ?_ h2)
  unfold OwnI
  rw [List.map_append, List.length_append]
  exact h1

set_option maxRecDepth 100000 in
theorem run_append_none {P : Program} (w : World) (base : Nat) (t ty e : TypeId) (i : TypeInfo) (size : Nat) (ht : P.underlying t = some (.slice e)) (hi : P.info? e = some i)
    (v : Value) (n : Nat) (xs : List Value) (hown : w.ownsRow base e size v n xs) (ax : Option Addr) (c : Nat) :
    (Builtin.append_ #[t, t] ty #[v, .slice ax 0 c]).run P w = .ok v w := by
  rcases hown.2 with ⟨rfl, rfl⟩ | ⟨g, cap, cur, rfl, _, _, hnc, _⟩ <;> cases ax
  · simp [Builtin.append_, run_underlying ht, sizeOf, typeInfo, hi, Builtin.lenOf, Builtin.firstCells]
  · simp [Builtin.append_, run_underlying ht, sizeOf, typeInfo, hi, Builtin.lenOf, Builtin.firstCells, loadCells, loadCellsFrom]
  · simp [Builtin.append_, run_underlying ht, sizeOf, typeInfo, hi, Builtin.lenOf, Builtin.firstCells, hnc, storeCells]
  · simp [Builtin.append_, run_underlying ht, sizeOf, typeInfo, hi, Builtin.lenOf, Builtin.firstCells, hnc, storeCells, loadCells, loadCellsFrom]

set_option maxRecDepth 100000 in
theorem run_append_any {P : Program} (w : World) (base : Nat) (t ty e : TypeId) (i : TypeInfo) (z : Value) (size bytes : Nat) (ht : P.underlying t = some (.slice e)) (hi : P.info? e = some i) (hz : i.zero = some z)
    (hsize : i.size = size) (hby : i.bytes = bytes) (hzs : z.cells.size = size) (hsz : 0 < size)
    (v : Value) (n : Nat) (xs : List Value) (hown : w.ownsRow base e size v n xs)
    (ax : Option Addr) (m c : Nat) (news : List Value) (hl : news.length = m * size) (hnews : news ≠ [] → ∃ a, ax = some a ∧ ∀ (j : Nat) u, news[j]? = some u → w.cell? (a.add j) = some u) (h1 : ∀ u ∈ news, u.oneCell' = true)
    (h63 : n + m ≤ maxLen) (hbytes : (n + m) * bytes ≤ 140737488355328) (hbase : base ≤ w.heap.size) :
    ∃ v' w', (Builtin.append_ #[t, t] ty #[v, .slice ax m c]).run P w = .ok v' w' ∧ w'.ownsRow base e size v' (n + m) (xs ++ news) ∧ w.grownBy w' v.ownBlock ∧ Fresh w v v' := by
  by_cases hm : m = 0
  · subst hm
    have hn : news = [] := List.length_eq_zero_iff.1 (by simpa using hl)
    subst hn
    refine ⟨v, w, run_append_none w base t ty e i size ht hi v n xs hown ax c, by simpa using hown, ⟨rfl, rfl, rfl, Nat.le_refl _, fun _ _ _ => rfl⟩, .inl rfl⟩
  · obtain ⟨a, rfl, hc⟩ := hnews (fun e => by
      rw [e] at hl
      have := Nat.mul_pos (Nat.pos_of_ne_zero hm) hsz
      simp only [List.length_nil] at hl; omega)
    exact run_append_fresh w base t ty e i z size bytes ht hi hz hsize hby hzs hsz v n xs hown a m c news hl hc h1 (by omega) h63 hbytes hbase

set_option maxRecDepth 100000 in
theorem wpList_appG {ops : Array Oper} {rest : List Oper} {o : Oper} {a : Act} {Q : Exit → Act → World → Prop} (B : Nat) (w3 : World) (hgd : o.guard = none) (s x : Operand)
    (ho : o.op = .call { callee := .builtin .append, args := #[s, x], argTypes := #[31, 31] }) (v : Value) (xs ys : List Int) (hs : a.eval s = v) (hown : OwnI w3 B v xs) (hB : B ≤ w3.heap.size)
    (ax : Option Addr) (n c : Nat) (hn : n = ys.length) (hx : a.eval x = .slice ax n c) (hR : RdI w3 ax ys) (hlen : xs.length + ys.length ≤ 2000000)
    (h : ∀ v' w', OwnI w' B v' (xs ++ ys) → w3.grownBy w' v.ownBlock → Fresh w3 v v' → wpList Try.prog ops Q rest (a.put o.dst v') w') : wpList Try.prog ops Q (o :: rest) a w3 := by
  obtain ⟨i0, hi, hz0, hz1, hz2⟩ := info_parts info_int
  subst hn
  obtain ⟨v', w', hr, h1, h2, h3⟩ := run_append_any (P := Try.prog) w3 B 31 o.type 3 i0 (.int .i64 0) 1 8 Try.underlying31 hi hz0 hz1 hz2 rfl (by decide) v xs.length _ hown ax ys.length c (ys.map (Value.int .i64)) (by simp)
    (fun hne => by
      obtain ⟨b, off, rfl, hc⟩ := hR (fun e => hne (by rw [e]; rfl))
      refine ⟨_, rfl, fun j u hj => ?_⟩
      rw [List.getElem?_map, Option.map_eq_some_iff] at hj
      obtain ⟨y, hy, rfl⟩ := hj
      have := hc j y hy
      by_cases hj0 : j = 0
      · subst hj0
        simpa [Addr.add] using this
      · simpa [Addr.add, hj0] using this)
    (fun u hu => by
      obtain ⟨y, _, rfl⟩ := List.mem_map.1 hu
      rfl) (by unfold maxLen; omega) (by omega) hB
  refine wpList_plain hgd fun K hK => ?_
  unfold Oper.wp execOp
  simp only [ho, resolve, invoke, builtin, Sem.run_bind, Sem.run_pure, Result.andThen_ok, List.map_toArray, List.map_cons, List.map_nil, hs, hx, hr]
  refine hK _ _ (h v' w' ?_ h2 h3)
  unfold OwnI
  rw [List.map_append, List.length_append]
  exact h1

set_option maxRecDepth 100000 in
theorem OwnI.rdI {w : World} {B : Nat} {a : Option Addr} {n c : Nat} {xs : List Int} (h : OwnI w B (.slice a n c) xs) : RdI w a xs := by
  obtain ⟨a', c', e, _, _, hR, _⟩ := h.val
  injection e with e1 e2 e3
  subst e1
  exact hR
set_option maxRecDepth 100000 in
/-- A part of a list that is read, from k on (the address stays where nothing is left behind it). -/
theorem RdI.drop {w : World} {b off n : Nat} {xs : List Int} (h : RdI w (some ⟨b, off, none⟩) xs) (k c : Nat) (hc : xs.length ≤ c) (hn : n = off + k) : RdI w (if c = k then some ⟨b, off, none⟩ else some ⟨b, n, none⟩) (xs.drop k) := fun hne => by
  have hk : k < xs.length := by
    rcases Nat.lt_or_ge k xs.length with h | h
    · exact h
    · exact absurd (List.drop_eq_nil_of_le h) hne
  obtain ⟨b', off', e, hc'⟩ := h (fun e => by rw [e] at hk; simp at hk)
  injection e with e
  injection e with e1 e2
  subst e1 e2
  rw [if_neg (by omega)]
  subst hn
  refine ⟨b, off + k, rfl, fun j x hx => ?_⟩
  rw [List.getElem?_drop] at hx
  rw [Nat.add_assoc]
  exact hc' (k + j) x hx
set_option maxRecDepth 100000 in
/-- A list of the call's own, cut short. -/
theorem OwnI.short {w : World} {B : Nat} {a : Option Addr} {n c : Nat} {xs : List Int} (h : OwnI w B (.slice a n c) xs) (k : Nat) (hk : k ≤ xs.length) : OwnI w B (.slice a k c) (xs.take k) := by
  obtain ⟨h1, h2⟩ := h
  have hl : (xs.take k).length = k := by rw [List.length_take]; omega
  refine ⟨by simp, ?_⟩
  rw [hl]
  rcases h2 with ⟨e, h0⟩ | ⟨g, cap, cur, e, hg, hh, hc, hm, hs, ht⟩
  · injection e with e1 e2 e3
    subst e1 e3
    have : k = 0 := by omega
    subst this
    exact .inl ⟨rfl, rfl⟩
  · injection e with e1 e2 e3
    subst e1 e3
    refine .inr ⟨g, c, cur, rfl, hg, hh, by omega, hm, hs, ?_⟩
    rw [Nat.mul_one] at ht ⊢
    rw [List.map_take, ← ht, List.take_take, Nat.min_eq_left hk]

set_option maxRecDepth 100000 in
theorem zeros_own {P : Program} (w : World) (t tn ty e : TypeId) (i : TypeInfo) (z : Value) (size bytes : Nat) (kn : IntKind) (ht : P.underlying t = some (.slice e)) (htn : P.underlying tn = some (.int kn)) (hi : P.info? e = some i) (hz : i.zero = some z)
    (hsize : i.size = size) (hby : i.bytes = bytes) (hzs : z.cells.size = size) (hsz : 0 < size) (n : Nat) (h0 : 0 < n) (hn : n ≤ 2000000) (hb : bytes ≤ 1000) :
    ∃ c w', (Builtin.append_ #[t, tn] ty #[.slice none 0 0, .int .i64 n]).run P w = .ok (.slice (some ⟨w.heap.size, 0, none⟩) n c) w' ∧ w'.ownsRow w.heap.size e size (.slice (some ⟨w.heap.size, 0, none⟩) 0 c) 0 [] ∧ Ext w w' ∧ 0 < c := by
  subst hsize
  subst hby
  have hbb : n * i.bytes ≤ 2000000 * 1000 := Nat.mul_le_mul hn hb
  have hr := Lib.run_append_nil_zeros (P := P) w t tn ty e i z .i64 kn ht htn hi hz n h0 hsz (by omega) (by omega)
  have hge := grownCap_ge w n 0 e
  refine ⟨_, _, hr, ?_, (Ext.refl w).drew.alloc _, by omega⟩
  have hs : (Builtin.zeroCells z.cells n ++ Builtin.zeroCells z.cells (grownCap w n 0 e - n)).size = grownCap w n 0 e * i.size := by
    rw [Array.size_append, size_zeroCells, size_zeroCells, hzs, ← Nat.add_mul]
    congr 1; omega
  exact World.ownsRow_made (base := w.heap.size) w.drew _ _ (Nat.le_refl _) (grownCap_le_maxLen w n 0 e (by unfold maxLen; omega)) hs

set_option maxRecDepth 100000 in
set_option maxHeartbeats 1000000 in
theorem grow_impl (w : World) (n : Nat) (hn : n ≤ 2000000) :
    Calls Try.prog 95 #[.slice none 0 0, .int .i64 n] w fun e w' => ∃ v, e = .returned v ∧ OwnI w' w.heap.size v [] ∧ Ext w w' := by
  obtain ⟨i0, hi, hz0, hz1, hz2⟩ := info_parts info_int
  by_cases h0 : n = 0
  · subst h0
    go_enter Try.func95, Try.ntmps95
    go_wp2
    go_ret
    exact ⟨_, rfl, OwnI.nil _ _, Ext.refl _⟩
  · obtain ⟨c, w', hr, hO, hE, hc⟩ := zeros_own (P := Try.prog) w 31 3 31 3 i0 (.int .i64 0) 1 8 .i64 Try.underlying31 Try.underlying3 hi hz0 hz1 hz2 rfl (by decide) n (by omega) hn (by decide)
    have hc0 : c ≠ 0 := by omega
    have hn0 : (0 : Int) < n := by omega
    have HR := hide hr
    clear hr
    go_enter Try.func95, Try.ntmps95
    go_wp2_with (at_builtin; refine Lib.wpList_append_run _ rfl _ _ _ _ rfl _ _ rfl rfl _ _ HR.out ?_)
    go_ret
    exact ⟨_, rfl, hO, hE⟩

set_option maxRecDepth 100000 in
set_option maxHeartbeats 4000000 in
theorem cat_impl (w : World) (g : Nat) (a1 a2 : Option Addr) (c1 c2 : Nat) (xs ys : List Int) (c0 : w.cell? ⟨g, 0, none⟩ = some (.slice a1 xs.length c1)) (c1' : w.cell? ⟨g, 1, none⟩ = some (.slice a2 ys.length c2))
    (hR1 : RdI w a1 xs) (hR2 : RdI w a2 ys) (hl : xs.length + ys.length ≤ 1000) :
    Calls Try.prog 87 #[.slice (some ⟨g, 0, none⟩) 2 2] w fun e w' => ∃ v, e = .returned v ∧ OwnI w' w.heap.size v (xs ++ ys) ∧ Ext w w' := by
  have h1 := c0
  have h2 := c1'
  have y1 : wrap64 (0 + (xs.length : Int)) = (xs.length : Int) := by rw [IntWalk.wrap64_in _ (by omega)]; omega
  have y2 : wrap64 ((xs.length : Int) + (ys.length : Int)) = (xs.length : Int) + (ys.length : Int) := IntWalk.wrap64_in _ (by omega)
  have z1 : ¬ ((xs.length : Int) < 0) := by omega
  have z2 : ¬ ((xs.length : Int) + (ys.length : Int) < 0) := by omega
  go_enter Try.func87, Try.ntmps87
  go_wp2_with fail
  go_loopw [3, 5, 11] (fun s _ i wr => ((i = .int .i64 0 ∧ s = .int .i64 0) ∨ (i = .int .i64 1 ∧ s = .int .i64 xs.length) ∨ (i = .int .i64 2 ∧ s = .int .i64 ((xs.length : Int) + (ys.length : Int)))) ∧ wr = w) (fun _ _ i _ => 2 - (intOf i).toNat)
  case atStart => exact ⟨.inl ⟨rfl, rfl⟩, rfl⟩
  case round =>
    obtain ⟨⟨rfl, rfl⟩ | ⟨rfl, rfl⟩ | ⟨rfl, rfl⟩, rfl⟩ := hrel
    · go_wp2
      exact ⟨⟨.inr (.inl ⟨rfl, rfl⟩), trivial⟩, by simp [intOf]⟩
    · go_wp2
      exact ⟨⟨.inr (.inr ⟨rfl, rfl⟩), trivial⟩, by simp [intOf]⟩
    · obtain ⟨wo, hwo⟩ : ∃ wo : World, wo = wr := ⟨_, rfl⟩
      subst hwo
      have hg := grow_impl wo (xs.length + ys.length) (by omega)
      rw [Int.natCast_add] at hg
      have HG := hide hg
      clear hg
      go_wp2_with fail
      refine HG.out.mono ?_
      rintro e w1 ⟨v, rfl, hO, hw1⟩
      have h1 := hw1.keep h1
      have h2 := hw1.keep h2
      go_wp2_with fail
      go_loopw [6, 8, 27] (fun v _ i wq => ((i = .int .i64 0 ∧ OwnI wq wo.heap.size v []) ∨ (i = .int .i64 1 ∧ OwnI wq wo.heap.size v xs) ∨ (i = .int .i64 2 ∧ OwnI wq wo.heap.size v (xs ++ ys))) ∧ Ext wo wq ∧ wq.cell? ⟨g, 0, none⟩ = some (.slice a1 xs.length c1) ∧ wq.cell? ⟨g, 1, none⟩ = some (.slice a2 ys.length c2)) (fun _ _ i _ => 2 - (intOf i).toNat)
      case atStart => exact ⟨.inl ⟨rfl, hO⟩, hw1, h1, h2⟩
      case round =>
        clear hO hw1 h1 h2
        obtain ⟨⟨rfl, hO⟩ | ⟨rfl, hO⟩ | ⟨rfl, hO⟩, hw, h1, h2⟩ := hrel
        · go_wp2_with (at_builtin; go_loud (refine wpList_appG wo.heap.size _ rfl _ _ rfl _ [] xs rfl (by exact hO) hw.size a1 xs.length c1 rfl rfl (hR1.ext hw) (by simp; omega) ?_); intro v1 w2 hO1 hg1 _)
          have hE := Ext.grown hw hg1 (ownsRow_block hO)
          exact ⟨⟨.inr (.inl ⟨rfl, hO1⟩), hE, hE.keep c0, hE.keep c1'⟩, by simp [intOf]⟩
        · go_wp2_with (at_builtin; go_loud (refine wpList_appG wo.heap.size _ rfl _ _ rfl _ xs ys rfl (by exact hO) hw.size a2 ys.length c2 rfl rfl (hR2.ext hw) (by omega) ?_); intro v1 w2 hO1 hg1 _)
          have hE := Ext.grown hw hg1 (ownsRow_block hO)
          exact ⟨⟨.inr (.inr ⟨rfl, hO1⟩), hE, hE.keep c0, hE.keep c1'⟩, by simp [intOf]⟩
        · go_wp2
          go_ret
          exact ⟨_, rfl, hO, hw⟩

def lsP (left : List Int) (x : Int) (r : List Int) : Bool := !(left.any (fun b => prefB r x b))
def fsP (left : List Int) (x : Int) (r : List Int) : Bool := !(left.any (fun b => prefB r b x))

set_option maxRecDepth 100000 in
set_option maxHeartbeats 1000000 in
theorem lastIn (w : World) (g1 g2 : Nat) (a : Option Addr) (c : Nat) (xs : List Int) (x b : Int) (h1 : w.cell? ⟨g1, 0, none⟩ = some (.slice a xs.length c)) (h2 : w.cell? ⟨g2, 0, none⟩ = some (.int .i64 x)) (hR : RdI w a xs) (hl : xs.length ≤ 2000000) :
    Calls Try.prog 82 #[.int .i64 b, .pointer (some ⟨g1, 0, none⟩), .pointer (some ⟨g2, 0, none⟩)] w fun e w' => e = .returned (.bool (prefB xs x b)) ∧ Ext w w' := by
  go_enter Try.func82, Try.ntmps82
  go_wp2_with (go_at_call 76; refine (pref_impl _ _ _ _ _ _ (hR.ext (by repeat (first | exact Ext.refl _ | assumption | refine Ext.alloc ?_ _ | refine Ext.drew ?_ | refine Ext.trans ?_ (by assumption)))) hl).mono ?_; rintro e w1 ⟨rfl, hw1⟩)
  go_ret
  exact ⟨rfl, (by repeat (first | exact Ext.refl _ | assumption | refine Ext.alloc ?_ _ | refine Ext.drew ?_ | refine Ext.trans ?_ (by assumption)))⟩

set_option maxRecDepth 100000 in
set_option maxHeartbeats 1000000 in
theorem lastCl (w : World) (gl ga : Nat) (al a : Option Addr) (cl c : Nat) (left xs : List Int) (x : Int) (h1 : w.cell? ⟨gl, 0, none⟩ = some (.slice al left.length cl)) (h2 : w.cell? ⟨ga, 0, none⟩ = some (.int .i64 x)) (hL : RdI w al left) (hR : RdI w a xs) (hl : xs.length ≤ 2000000) (hll : left.length ≤ 2000000) :
    Calls Try.prog 80 #[.slice a xs.length c, .pointer (some ⟨gl, 0, none⟩), .pointer (some ⟨ga, 0, none⟩)] w fun e w' => e = .returned (.bool (lsP left x xs)) ∧ Ext w w' := by
  have p0 := new0 w (.slice a xs.length c) [] 31
  have h1' := Ext.keep (Ext.new w (.cells #[.slice a xs.length c] 31)) h1
  have h2' := Ext.keep (Ext.new w (.cells #[.slice a xs.length c] 31)) h2
  go_enter Try.func80, Try.ntmps80
  go_wp2_with fail
  refine (containsFuncI 82 #[] #[.pointer (some ⟨w.heap.size, 0, none⟩), .pointer (some ⟨ga, 0, none⟩)] (fun b => prefB xs x b) _ al cl left (hL.ext (by repeat (first | exact Ext.refl _ | assumption | refine Ext.alloc ?_ _ | refine Ext.drew ?_ | refine Ext.trans ?_ (by assumption)))) hll Try.call82
    (fun b w' _ hw' => lastIn w' _ _ a c xs x b (hw'.keep p0) (hw'.keep h2') (hR.ext ((Ext.new _ _).trans hw')) hl)).mono ?_
  rintro e w1 ⟨rfl, hw1⟩
  go_wp2
  go_ret
  exact ⟨rfl, (by repeat (first | exact Ext.refl _ | assumption | refine Ext.alloc ?_ _ | refine Ext.drew ?_ | refine Ext.trans ?_ (by assumption)))⟩

set_option maxRecDepth 100000 in
set_option maxHeartbeats 1000000 in
theorem last_impl (w : World) (sz : Int) (a al : Option Addr) (c cl : Nat) (vs : List Vt) (left : List Int) (x : Int) (hR : RdV w a vs) (hS : SmallV sz vs) (hL : RdI w al left) (hll : left.length ≤ 2000000) :
    Calls Try.prog 57 #[.agg #[.int .i64 sz, .slice a vs.length c], .slice al left.length cl, .int .i64 x] w fun e w' => e = .returned (.int .i64 (sumV (lsP left x) vs)) ∧ Ext w w' := by
  have HS := hide hS
  clear hS
  go_enter Try.func57, Try.ntmps57
  go_wp2_with fail
  refine (votersV 80 _ _ (lsP left x) _ sz _ _ vs (hR.ext (by repeat (first | exact Ext.refl _ | assumption | refine Ext.alloc ?_ _ | refine Ext.drew ?_ | refine Ext.trans ?_ (by assumption)))) HS.out Try.call80 ?_).mono ?_
  · intro v a' c' w' hv hw' hRv hc'
    exact lastCl w' _ _ al a' cl c' left v.1 x (hw'.keep (by go_simp)) (hw'.keep (by go_simp)) (hL.ext ((show Ext w _ from (by repeat (first | exact Ext.refl _ | assumption | refine Ext.alloc ?_ _ | refine Ext.drew ?_ | refine Ext.trans ?_ (by assumption)))).trans hw')) hRv (by have := (rk_len (HS.out.2 v hv).1).2; omega) hll
  rintro e w1 ⟨rfl, hw1⟩
  go_wp2
  go_ret
  exact ⟨rfl, (by repeat (first | exact Ext.refl _ | assumption | refine Ext.alloc ?_ _ | refine Ext.drew ?_ | refine Ext.trans ?_ (by assumption)))⟩

/-- The last of those with the least worth, -1 if there is none. -/
def pickV (f : Int → Int) (xs : List Int) : Int := xs.foldl (fun cur x => if cur < 0 ∨ f x ≤ f cur then x else cur) (-1)
set_option maxRecDepth 100000 in
theorem pickV_nil (f : Int → Int) : pickV f [] = -1 := rfl
set_option maxRecDepth 100000 in
theorem pickV_snoc (f : Int → Int) (xs : List Int) (x : Int) : pickV f (xs ++ [x]) = if pickV f xs < 0 ∨ f x ≤ f (pickV f xs) then x else pickV f xs := by
  unfold pickV; rw [List.foldl_append]; rfl
set_option maxRecDepth 100000 in
theorem foldl_pick (f : Int → Int) : ∀ (xs : List Int) (cur : Int), xs.foldl (fun cur x => if cur < 0 ∨ f x ≤ f cur then x else cur) cur = cur ∨ xs.foldl (fun cur x => if cur < 0 ∨ f x ≤ f cur then x else cur) cur ∈ xs
  | [], cur => .inl rfl
  | x :: xs, cur => by
    rw [List.foldl_cons]
    rcases foldl_pick f xs (if cur < 0 ∨ f x ≤ f cur then x else cur) with h | h
    · rw [h]
      split
      · exact .inr (by simp)
      · exact .inl rfl
    · exact .inr (List.mem_cons_of_mem _ h)
set_option maxRecDepth 100000 in
theorem pickV_mem {f : Int → Int} {xs : List Int} (h : xs ≠ []) : pickV f xs ∈ xs := by
  cases xs with
  | nil => exact absurd rfl h
  | cons x xs =>
    unfold pickV
    rw [List.foldl_cons, if_pos (.inl (by decide))]
    rcases foldl_pick f xs x with h | h
    · rw [h]; simp
    · exact List.mem_cons_of_mem _ h
set_option maxRecDepth 100000 in
theorem erase_filter : ∀ {xs : List Int} {i : Nat} {x : Int}, xs.Nodup → xs[i]? = some x → xs.eraseIdx i = xs.filter (fun y => !(y == x))
  | [], _, _, _, h => by simp at h
  | y :: ys, 0, x, hd, h => by
    simp at h
    subst h
    rw [List.nodup_cons] at hd
    have : ys.filter (fun z => !(z == y)) = ys := List.filter_eq_self.2 (fun z hz => by
      simp only [Bool.not_eq_true', beq_eq_false_iff_ne]
      rintro rfl
      exact hd.1 hz)
    simp [this]
  | y :: ys, i + 1, x, hd, h => by
    rw [List.nodup_cons] at hd
    simp only [List.getElem?_cons_succ] at h
    have hne : y ≠ x := by rintro rfl; exact hd.1 (List.mem_of_getElem? h)
    have hb : (y == x) = false := by simpa using hne
    rw [List.eraseIdx_cons_succ, erase_filter hd.2 h, List.filter_cons, hb]
    rfl
/-- Candidates that are not in a list. -/
def notIn (out : List Int) (i : Nat) : Bool := !hasI out (i : Int)
def leftL (n : Nat) (out : List Int) : List Int := upL n (notIn out)
set_option maxRecDepth 100000 in
theorem hasI_iff {xs : List Int} {x : Int} : hasI xs x = true ↔ x ∈ xs := by unfold hasI; simp
set_option maxRecDepth 100000 in
theorem upL_mem {n : Nat} {q : Nat → Bool} {x : Int} : x ∈ upL n q ↔ ∃ i : Nat, i < n ∧ q i = true ∧ x = i := by
  unfold upL
  simp only [List.mem_map, List.mem_filter, List.mem_range]
  constructor
  · rintro ⟨i, ⟨h1, h2⟩, rfl⟩; exact ⟨i, h1, h2, rfl⟩
  · rintro ⟨i, h1, h2, rfl⟩; exact ⟨i, ⟨h1, h2⟩, rfl⟩
set_option maxRecDepth 100000 in
theorem upL_nodup (n : Nat) (q : Nat → Bool) : (upL n q).Nodup := by
  unfold upL
  refine List.Pairwise.map _ (fun a b h => ?_) (List.Pairwise.filter _ List.nodup_range)
  intro e
  have e' : (a : Int) = (b : Int) := e
  exact h (by omega)
set_option maxRecDepth 100000 in
theorem leftL_mem {n : Nat} {out : List Int} {x : Int} : x ∈ leftL n out ↔ ∃ i : Nat, i < n ∧ (i : Int) ∉ out ∧ x = i := by
  unfold leftL
  rw [upL_mem]
  constructor
  · rintro ⟨i, h1, h2, h3⟩
    refine ⟨i, h1, fun h => ?_, h3⟩
    rw [notIn, hasI_iff.2 h] at h2; cases h2
  · rintro ⟨i, h1, h2, h3⟩
    refine ⟨i, h1, ?_, h3⟩
    unfold notIn
    cases h : hasI out (i : Int)
    · rfl
    · exact absurd (hasI_iff.1 h) h2
set_option maxRecDepth 100000 in
theorem leftL_pos {n : Nat} {out : List Int} {x : Int} (h : x ∈ leftL n out) : 0 ≤ x := by obtain ⟨i, _, _, rfl⟩ := leftL_mem.1 h; omega
set_option maxRecDepth 100000 in
/-- One more has gone. -/
theorem leftL_erase {n k : Nat} {out : List Int} {x : Int} (h : (leftL n out)[k]? = some x) : (leftL n out).eraseIdx k = leftL n (out ++ [x]) := by
  rw [erase_filter (show (leftL n out).Nodup from upL_nodup n (notIn out)) h]
  unfold leftL upL
  rw [List.filter_map, List.filter_filter]
  congr 1
  refine List.filter_congr (fun i _ => ?_)
  rw [Bool.eq_iff_iff]
  have e : hasI (out ++ [x]) (i : Int) = true ↔ hasI out (i : Int) = true ∨ (i : Int) = x := by
    rw [hasI_iff, hasI_iff]; simp
  unfold notIn
  simp only [Function.comp, Bool.and_eq_true, Bool.not_eq_true', beq_eq_false_iff_ne]
  constructor
  · rintro ⟨h1, h2⟩
    cases h3 : hasI (out ++ [x]) (i : Int)
    · rfl
    · rcases e.1 h3 with h4 | h4
      · rw [h2] at h4; cases h4
      · exact absurd h4 h1
  · intro h3
    refine ⟨fun h4 => ?_, ?_⟩
    · rw [e.2 (.inr h4)] at h3; cases h3
    · cases h5 : hasI out (i : Int)
      · rfl
      · rw [e.2 (.inl h5)] at h3; cases h3
set_option maxRecDepth 100000 in
theorem leftL_len {n : Nat} {out : List Int} : (leftL n out).length ≤ n := upL_len _ _

/-- The first k that are eliminated, by the worth W. -/
def elimL (n : Nat) (W : List Int → Int → Int) : Nat → List Int
  | 0 => []
  | k + 1 => elimL n W k ++ [pickV (W (leftL n (elimL n W k))) (leftL n (elimL n W k))]
set_option maxRecDepth 100000 in
theorem elimL_len (n : Nat) (W : List Int → Int → Int) : ∀ k, (elimL n W k).length = k
  | 0 => rfl
  | k + 1 => by rw [elimL, List.length_append, elimL_len n W k]; rfl
set_option maxRecDepth 100000 in
theorem leftL_nil (n : Nat) : leftL n [] = upL n (fun _ => true) := upL_congr (fun i _ => by simp [notIn, hasI])
set_option maxRecDepth 100000 in
theorem upL_true_len : ∀ n, (upL n (fun _ => true)).length = n
  | 0 => rfl
  | n + 1 => by rw [upL_succ, List.length_append, upL_true_len n]; rfl
set_option maxRecDepth 100000 in
theorem leftL_elim {n : Nat} (W : List Int → Int → Int) : ∀ k, k ≤ n → (leftL n (elimL n W k)).length = n - k
  | 0, _ => by rw [elimL, leftL_nil, upL_true_len]; rfl
  | k + 1, hk => by
    have ih := leftL_elim (n := n) W k (by omega)
    have hne : leftL n (elimL n W k) ≠ [] := fun e => by rw [e] at ih; simp at ih; omega
    have hm := pickV_mem (f := W (leftL n (elimL n W k))) hne
    obtain ⟨i, hi⟩ := List.mem_iff_getElem?.1 hm
    have hlt := lt_of_at hi
    rw [elimL, ← leftL_erase hi, List.length_eraseIdx, if_pos hlt, ih]
    omega

set_option maxRecDepth 100000 in
theorem flatMap_same {α β : Type} {f g : α → List β} : ∀ {l : List α}, (∀ x ∈ l, f x = g x) → l.flatMap f = l.flatMap g
  | [], _ => rfl
  | x :: l, h => by
    rw [List.flatMap_cons, List.flatMap_cons, h x (by simp), flatMap_same (fun y hy => h y (by simp [hy]))]
set_option maxRecDepth 100000 in
theorem flatMap_range {β : Type} (f : Int → List β) : ∀ s : List Int, s.flatMap f = (List.range s.length).flatMap (fun i => f (s.getD i 0))
  | [] => rfl
  | x :: s => by
    rw [List.flatMap_cons, flatMap_range f s, List.length_cons, List.range_succ_eq_map, List.flatMap_cons, List.flatMap_map]
    rfl

/-- The orders that begin with `pre`, k more candidates to come, as the spec draws them. -/
def allS (n : Nat) : Nat → List Int → List (List Int)
  | 0, pre => [pre]
  | k + 1, pre => (leftL n pre).flatMap (fun x => allS n k (pre ++ [x]))

/-- The orders of s (of length k) as the implementation draws them. -/
def ordL : Nat → List Int → List (List Int)
  | 0, _ => [[]]
  | k + 1, s => (List.range s.length).flatMap (fun i => (ordL k (s.eraseIdx i)).map (fun r => s.getD i 0 :: r))

set_option maxRecDepth 100000 in
theorem all_ord (n : Nat) : ∀ (k : Nat) (pre : List Int), allS n k pre = (ordL k (leftL n pre)).map (fun r => pre ++ r)
  | 0, pre => by simp [allS, ordL]
  | k + 1, pre => by
    unfold allS ordL
    rw [flatMap_range, List.map_flatMap]
    refine flatMap_same (fun i hi => ?_)
    have hi := List.mem_range.1 hi
    have hg : (leftL n pre)[i]? = some ((leftL n pre).getD i 0) := by
      rw [List.getD_eq_getElem?_getD, List.getElem?_eq_getElem hi]; rfl
    rw [all_ord n k, ← leftL_erase hg, List.map_map]
    refine List.map_congr_left (fun r _ => ?_)
    simp

set_option maxRecDepth 100000 in
theorem ordL_len (k : Nat) : ∀ (s : List Int), s.length = k → ∀ r ∈ ordL k s, r.length = k := by
  induction k with
  | zero => intro s _ r hr; simp [ordL] at hr; simp [hr]
  | succ k ih =>
    intro s hs r hr
    unfold ordL at hr
    obtain ⟨i, hi, hr⟩ := List.mem_flatMap.1 hr
    obtain ⟨t, ht, rfl⟩ := List.mem_map.1 hr
    have hi := List.mem_range.1 hi
    rw [List.length_cons, ih (s.eraseIdx i) (by rw [List.length_eraseIdx_of_lt hi]; omega) t ht]

/-- All rankings of n candidates. -/
def allO (n : Nat) : List (List Int) := allS n n []
set_option maxRecDepth 100000 in
theorem all_eq (n : Nat) : allO n = ordL n (leftL n []) := by
  unfold allO; rw [all_ord]; simp

set_option maxRecDepth 100000 in
theorem wpList_appSF {ops : Array Oper} {rest : List Oper} {o : Oper} {a : Act} {Q : Exit → Act → World → Prop} (W0 w0 w3 : World) (hgd : o.guard = none) (s x : Operand)
    (ho : o.op = .call { callee := .builtin .append, args := #[s, x], argTypes := #[35, 35] }) (v : Value) (xss : List (List Int)) (u : Value) (xs : List Int) (hs : a.eval s = v)
    (hown : OwnSS w0 W0.heap.size v xss) (hW0 : Ext W0 w0) (hw : Ext w0 w3) (hu : OwnI w3 w0.heap.size u xs)
    (hx : a.eval x = .slice (some ⟨w3.heap.size, 0, none⟩) 1 1) (hlen : xss.length ≤ 2000000)
    (h : ∀ v' w', OwnSS w' W0.heap.size v' (xss ++ [xs]) → Ext W0 w' → w3.grownBy w' v.ownBlock → Fresh w3 v v' → wpList Try.prog ops Q rest (a.put o.dst v') w') : wpList Try.prog ops Q (o :: rest) a (w3.alloc (.cells #[u] 31)) := by
  obtain ⟨i0, hi, hz0, hz1, hz2⟩ := info_parts info_row
  obtain ⟨cs, h1, h2, h3, h4⟩ := hown
  have h1a := ownsRow_ext h1 (hw.alloc (.cells #[u] 31))
  have hW3 : Ext W0 (w3.alloc (.cells #[u] 31)) := (hW0.trans hw).alloc _
  obtain ⟨v', w', hr, h5, h6, hfr⟩ := run_append_fresh (P := Try.prog) (w3.alloc (.cells #[u] 31)) W0.heap.size 35 o.type 31 i0 (.slice none 0 0) 1 24 Try.underlying35 hi hz0 hz1 hz2 rfl (by decide) v cs.length _ h1a ⟨w3.heap.size, 0, none⟩ 1 1 [u] rfl
    (fun j z hj => by
      match j, hj with
      | 0, hj => simp at hj; subst hj; simp [Addr.add])
    (fun z hz => by simp at hz; subst hz; exact hu.slice) (by decide) (by unfold maxLen; omega) (by omega) hW3.size
  refine wpList_plain hgd fun K hK => ?_
  unfold Oper.wp execOp
  simp only [ho, resolve, invoke, builtin, Sem.run_bind, Sem.run_pure, Result.andThen_ok, List.map_toArray, List.map_cons, List.map_nil, hs, hx, hr]
  refine hK _ _ ?_
  · have hgz : w3.grownBy w' v.ownBlock := ⟨h6.os, h6.tape, h6.output, Nat.le_trans (by simp) h6.size, fun k hk hne => (h6.block k (by simp; omega) hne).trans (Below.block (Ext.new w3 (.cells #[u] 31)) k hk)⟩
    have hfz : Fresh w3 v v' := by
      rcases hfr with hfr | hfr
      · exact .inl hfr
      · exact .inr (fun k hk => by have := hfr k hk; simp at this; omega)
    have huw := hu.ext (Ext.new w3 (.cells #[u] 31))
    refine h v' w' ⟨cs ++ [u], by simpa using h5, by simp [h2], fun j ys hy => ?_, fun i j z z' k hne hz hz' hk => ?_⟩ (hW3.grown h6 (ownsRow_block h1a)) hgz hfz
    · rcases Nat.lt_or_ge j xss.length with hlt | hge
      · rw [List.getElem?_append_left hlt] at hy
        obtain ⟨z, hz, hO⟩ := h3 j ys hy
        refine ⟨z, by rw [List.getElem?_append_left (by omega)]; exact hz, ?_⟩
        have hO' := hO.ext (hw.alloc (.cells #[u] 31))
        exact hO'.keepRow h6 (own_ne' hO' h1a)
      · rw [List.getElem?_append_right hge] at hy
        have hj : j - xss.length = 0 := by have := lt_of_at hy; simp at this; omega
        rw [hj] at hy
        simp at hy
        subst hy
        refine ⟨u, by rw [List.getElem?_append_right (by omega), h2, hj]; rfl, ?_⟩
        exact (huw.keepRow h6 (own_ne' huw h1a)).base hW0.size
    · have low : ∀ (i : Nat) (z : Value) (k : Nat), cs[i]? = some z → z.ownBlock = some k → k < w0.heap.size := fun i z k hz hk => by
        obtain ⟨ys, hy⟩ := at_of_lt (xs := xss) (k := i) (by have := lt_of_at hz; omega)
        obtain ⟨z', hz', hO⟩ := h3 i ys hy
        rw [hz] at hz'
        injection hz' with hz'
        subst hz'
        exact (World.ownsRow.lt hO k hk).2
      have new : ∀ k, u.ownBlock = some k → w0.heap.size ≤ k := fun k hk => (World.ownsRow.lt hu k hk).1
      rcases Nat.lt_or_ge i cs.length with hil | hil
      · rw [List.getElem?_append_left hil] at hz
        rcases Nat.lt_or_ge j cs.length with hjl | hjl
        · rw [List.getElem?_append_left hjl] at hz'
          exact h4 i j z z' k hne hz hz' hk
        · rw [List.getElem?_append_right hjl] at hz'
          have hj : j - cs.length = 0 := by have := lt_of_at hz'; simp at this; omega
          rw [hj] at hz'
          simp at hz'
          subst hz'
          intro e
          have := low i z k hz hk
          have := new k e
          omega
      · rw [List.getElem?_append_right hil] at hz
        have hi0 : i - cs.length = 0 := by have := lt_of_at hz; simp at this; omega
        rw [hi0] at hz
        simp at hz
        subst hz
        rcases Nat.lt_or_ge j cs.length with hjl | hjl
        · rw [List.getElem?_append_left hjl] at hz'
          intro e
          have := low j z' k hz' e
          have := new k hk
          omega
        · rw [List.getElem?_append_right hjl] at hz'
          have hj0 : j - cs.length = 0 := by have := lt_of_at hz'; simp at this; omega
          omega

end Go.Proofs.Ytkbbcglghfddjaa
