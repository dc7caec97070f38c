/- slices.Concat of two lists of integers. A row appended to an own matrix, with the frame told. All rankings, as the spec draws them. All rankings of the spec, from the start. All rankings, as the program draws them. Pairs of a ranking that are turned, counted by the program. The ranking in which each candidate beats all behind it, of the program. The first ranking with the least cost, of the program. -/
import Derived.Test.YtfmeklgdaabooaaGreatDoorCn8
import Derived.Lib.AppendZeros
import Derived.Test.YtfmeklgdaabooaaGreatDoorCn4
import Derived.Test.YtfmeklgdaabooaaGreatDoorCn3
import Derived.Test.YtfmeklgdaabooaaGreatDoorCn10
import Derived.Test.YtfmeklgdaabooaaGreatDoorCn7
import Derived.Test.YtfmeklgdaabooaaGreatDoorCn5
import Derived.Test.YtfmeklgdaabooaaGreatDoorCn13
import Derived.Test.YtfmeklgdaabooaaGreatDoorCn11
import Derived.Test.YtfmeklgdaabooaaGreatDoorCn9
import Derived.Lib.BufferMore
namespace Go.Proofs.YtfmeklgdaabooaaGreatDoor
open Go.RowKit

set_option maxRecDepth 100000 in
theorem zeros_own {P : Program} (w : World) (t tn ty e : TypeId) (i : TypeInfo) (z : Value) (size bytes : Nat) (kn : IntKind) (ht : P.underlying t = some (.slice e)) (htn : P.underlying tn = some (.int kn)) (hi : P.info? e = some i) (hz : i.zero = some z)
    (hsize : i.size = size) (hby : i.bytes = bytes) (hzs : z.cells.size = size) (hsz : 0 < size) (n : Nat) (h0 : 0 < n) (hn : n ≤ 2000000) (hb : bytes ≤ 1000) :
    ∃ c w', (Builtin.append_ #[t, tn] ty #[.slice none 0 0, .int .i64 n]).run P w = .ok (.slice (some ⟨w.heap.size, 0, none⟩) n c) w' ∧ w'.ownsRow w.heap.size e size (.slice (some ⟨w.heap.size, 0, none⟩) 0 c) 0 [] ∧ Ext w w' ∧ 0 < c := by
  subst hsize
  subst hby
  have hbb : n * i.bytes ≤ 2000000 * 1000 := Nat.mul_le_mul hn hb
  have hr := Lib.run_append_nil_zeros (P := P) w t tn ty e i z .i64 kn ht htn hi hz n h0 hsz (by omega) (by omega)
  have hge := grownCap_ge w n 0 e
  refine ⟨_, _, hr, ?_, (Ext.refl w).drew.alloc _, by omega⟩
  have hs : (Builtin.zeroCells z.cells n ++ Builtin.zeroCells z.cells (grownCap w n 0 e - n)).size = grownCap w n 0 e * i.size := by
    rw [Array.size_append, size_zeroCells, size_zeroCells, hzs, ← Nat.add_mul]
    congr 1; omega
  exact World.ownsRow_made (base := w.heap.size) w.drew _ _ (Nat.le_refl _) (grownCap_le_maxLen w n 0 e (by unfold maxLen; omega)) hs

set_option maxRecDepth 100000 in
set_option maxHeartbeats 1000000 in
theorem grow_impl (w : World) (n : Nat) (hn : n ≤ 2000000) :
    Calls Tryz.prog 127 #[.slice none 0 0, .int .i64 n] w fun e w' => ∃ v, e = .returned v ∧ OwnI w' w.heap.size v [] ∧ Ext w w' := by
  obtain ⟨i0, hi, hz0, hz1, hz2⟩ := info_parts info_int
  by_cases h0 : n = 0
  · subst h0
    go_enter Tryz.func127, Tryz.ntmps127
    go_wp2
    go_ret
    exact ⟨_, rfl, OwnI.nil _ _, Ext.refl _⟩
  · obtain ⟨c, w', hr, hO, hE, hc⟩ := zeros_own (P := Tryz.prog) w 28 3 28 3 i0 (.int .i64 0) 1 8 .i64 Tryz.underlying28 Tryz.underlying3 hi hz0 hz1 hz2 rfl (by decide) n (by omega) hn (by decide)
    have hc0 : c ≠ 0 := by omega
    have hn0 : (0 : Int) < n := by omega
    have HR := hide hr
    clear hr
    go_enter Tryz.func127, Tryz.ntmps127
    go_wp2_with (at_builtin; refine Lib.wpList_append_run _ rfl _ _ _ _ rfl _ _ rfl rfl _ _ HR.out ?_)
    go_ret
    exact ⟨_, rfl, hO, hE⟩

set_option maxRecDepth 100000 in
set_option maxHeartbeats 4000000 in
theorem cat_impl (w : World) (g : Nat) (a1 a2 : Option Addr) (c1 c2 : Nat) (xs ys : List Int) (c0 : w.cell? ⟨g, 0, none⟩ = some (.slice a1 xs.length c1)) (c1' : w.cell? ⟨g, 1, none⟩ = some (.slice a2 ys.length c2))
    (hR1 : RdI w a1 xs) (hR2 : RdI w a2 ys) (hl : xs.length + ys.length ≤ 1000) :
    Calls Tryz.prog 104 #[.slice (some ⟨g, 0, none⟩) 2 2] w fun e w' => ∃ v, e = .returned v ∧ OwnI w' w.heap.size v (xs ++ ys) ∧ Ext w w' := by
  have h1 := c0
  have h2 := c1'
  have y1 : wrap64 (0 + (xs.length : Int)) = (xs.length : Int) := by rw [IntWalk.wrap64_in _ (by omega)]; omega
  have y2 : wrap64 ((xs.length : Int) + (ys.length : Int)) = (xs.length : Int) + (ys.length : Int) := IntWalk.wrap64_in _ (by omega)
  have z1 : ¬ ((xs.length : Int) < 0) := by omega
  have z2 : ¬ ((xs.length : Int) + (ys.length : Int) < 0) := by omega
  go_enter Tryz.func104, Tryz.ntmps104
  go_wp2_with fail
  go_loopw [3, 5, 11] (fun s _ i wr => ((i = .int .i64 0 ∧ s = .int .i64 0) ∨ (i = .int .i64 1 ∧ s = .int .i64 xs.length) ∨ (i = .int .i64 2 ∧ s = .int .i64 ((xs.length : Int) + (ys.length : Int)))) ∧ wr = w) (fun _ _ i _ => 2 - (intOf i).toNat)
  case atStart => exact ⟨.inl ⟨rfl, rfl⟩, rfl⟩
  case round =>
    obtain ⟨⟨rfl, rfl⟩ | ⟨rfl, rfl⟩ | ⟨rfl, rfl⟩, rfl⟩ := hrel
    · go_wp2
      exact ⟨⟨.inr (.inl ⟨rfl, rfl⟩), trivial⟩, by simp [intOf]⟩
    · go_wp2
      exact ⟨⟨.inr (.inr ⟨rfl, rfl⟩), trivial⟩, by simp [intOf]⟩
    · obtain ⟨wo, hwo⟩ : ∃ wo : World, wo = wr := ⟨_, rfl⟩
      subst hwo
      have hg := grow_impl wo (xs.length + ys.length) (by omega)
      rw [Int.natCast_add] at hg
      have HG := hide hg
      clear hg
      go_wp2_with fail
      refine HG.out.mono ?_
      rintro e w1 ⟨v, rfl, hO, hw1⟩
      have h1 := hw1.keep h1
      have h2 := hw1.keep h2
      go_wp2_with fail
      go_loopw [6, 8, 27] (fun v _ i wq => ((i = .int .i64 0 ∧ OwnI wq wo.heap.size v []) ∨ (i = .int .i64 1 ∧ OwnI wq wo.heap.size v xs) ∨ (i = .int .i64 2 ∧ OwnI wq wo.heap.size v (xs ++ ys))) ∧ Ext wo wq ∧ wq.cell? ⟨g, 0, none⟩ = some (.slice a1 xs.length c1) ∧ wq.cell? ⟨g, 1, none⟩ = some (.slice a2 ys.length c2)) (fun _ _ i _ => 2 - (intOf i).toNat)
      case atStart => exact ⟨.inl ⟨rfl, hO⟩, hw1, h1, h2⟩
      case round =>
        clear hO hw1 h1 h2
        obtain ⟨⟨rfl, hO⟩ | ⟨rfl, hO⟩ | ⟨rfl, hO⟩, hw, h1, h2⟩ := hrel
        · go_wp2_with (at_builtin; go_loud (refine wpList_appG wo.heap.size _ rfl _ _ rfl _ [] xs rfl (by exact hO) hw.size a1 xs.length c1 rfl rfl (hR1.ext hw) (by simp; omega) ?_); intro v1 w2 hO1 hg1 _)
          have hE := Ext.grown hw hg1 (ownsRow_block hO)
          exact ⟨⟨.inr (.inl ⟨rfl, hO1⟩), hE, hE.keep c0, hE.keep c1'⟩, by simp [intOf]⟩
        · go_wp2_with (at_builtin; go_loud (refine wpList_appG wo.heap.size _ rfl _ _ rfl _ xs ys rfl (by exact hO) hw.size a2 ys.length c2 rfl rfl (hR2.ext hw) (by omega) ?_); intro v1 w2 hO1 hg1 _)
          have hE := Ext.grown hw hg1 (ownsRow_block hO)
          exact ⟨⟨.inr (.inr ⟨rfl, hO1⟩), hE, hE.keep c0, hE.keep c1'⟩, by simp [intOf]⟩
        · go_wp2
          go_ret
          exact ⟨_, rfl, hO, hw⟩

set_option maxRecDepth 100000 in
theorem wpList_appSF {ops : Array Oper} {rest : List Oper} {o : Oper} {a : Act} {Q : Exit → Act → World → Prop} (W0 w0 w3 : World) (hgd : o.guard = none) (s x : Operand)
    (ho : o.op = .call { callee := .builtin .append, args := #[s, x], argTypes := #[50, 50] }) (v : Value) (xss : List (List Int)) (u : Value) (xs : List Int) (hs : a.eval s = v)
    (hown : OwnSS w0 W0.heap.size v xss) (hW0 : Ext W0 w0) (hw : Ext w0 w3) (hu : OwnI w3 w0.heap.size u xs)
    (hx : a.eval x = .slice (some ⟨w3.heap.size, 0, none⟩) 1 1) (hlen : xss.length ≤ 2000000)
    (h : ∀ v' w', OwnSS w' W0.heap.size v' (xss ++ [xs]) → Ext W0 w' → w3.grownBy w' v.ownBlock → Fresh w3 v v' → wpList Tryz.prog ops Q rest (a.put o.dst v') w') : wpList Tryz.prog ops Q (o :: rest) a (w3.alloc (.cells #[u] 28)) := by
  obtain ⟨i0, hi, hz0, hz1, hz2⟩ := info_parts info_row
  obtain ⟨cs, h1, h2, h3, h4⟩ := hown
  have h1a := ownsRow_ext h1 (hw.alloc (.cells #[u] 28))
  have hW3 : Ext W0 (w3.alloc (.cells #[u] 28)) := (hW0.trans hw).alloc _
  obtain ⟨v', w', hr, h5, h6, hfr⟩ := run_append_fresh (P := Tryz.prog) (w3.alloc (.cells #[u] 28)) W0.heap.size 50 o.type 28 i0 (.slice none 0 0) 1 24 Tryz.underlying50 hi hz0 hz1 hz2 rfl (by decide) v cs.length _ h1a ⟨w3.heap.size, 0, none⟩ 1 1 [u] rfl
    (fun j z hj => by
      match j, hj with
      | 0, hj => simp at hj; subst hj; simp [Addr.add])
    (fun z hz => by simp at hz; subst hz; exact hu.slice) (by decide) (by unfold maxLen; omega) (by omega) hW3.size
  refine wpList_plain hgd fun K hK => ?_
  unfold Oper.wp execOp
  simp only [ho, resolve, invoke, builtin, Sem.run_bind, Sem.run_pure, Result.andThen_ok, List.map_toArray, List.map_cons, List.map_nil, hs, hx, hr]
  refine hK _ _ ?_
  · have hgz : w3.grownBy w' v.ownBlock := ⟨h6.os, h6.tape, h6.output, Nat.le_trans (by simp) h6.size, fun k hk hne => (h6.block k (by simp; omega) hne).trans (Below.block (Ext.new w3 (.cells #[u] 28)) k hk)⟩
    have hfz : Fresh w3 v v' := by
      rcases hfr with hfr | hfr
      · exact .inl hfr
      · exact .inr (fun k hk => by have := hfr k hk; simp at this; omega)
    have huw := hu.ext (Ext.new w3 (.cells #[u] 28))
    refine h v' w' ⟨cs ++ [u], by simpa using h5, by simp [h2], fun j ys hy => ?_, fun i j z z' k hne hz hz' hk => ?_⟩ (hW3.grown h6 (ownsRow_block h1a)) hgz hfz
    · rcases Nat.lt_or_ge j xss.length with hlt | hge
      · rw [List.getElem?_append_left hlt] at hy
        obtain ⟨z, hz, hO⟩ := h3 j ys hy
        refine ⟨z, by rw [List.getElem?_append_left (by omega)]; exact hz, ?_⟩
        have hO' := hO.ext (hw.alloc (.cells #[u] 28))
        exact hO'.keepRow h6 (own_ne' hO' h1a)
      · rw [List.getElem?_append_right hge] at hy
        have hj : j - xss.length = 0 := by have := lt_of_at hy; simp at this; omega
        rw [hj] at hy
        simp at hy
        subst hy
        refine ⟨u, by rw [List.getElem?_append_right (by omega), h2, hj]; rfl, ?_⟩
        exact (huw.keepRow h6 (own_ne' huw h1a)).base hW0.size
    · have low : ∀ (i : Nat) (z : Value) (k : Nat), cs[i]? = some z → z.ownBlock = some k → k < w0.heap.size := fun i z k hz hk => by
        obtain ⟨ys, hy⟩ := at_of_lt (xs := xss) (k := i) (by have := lt_of_at hz; omega)
        obtain ⟨z', hz', hO⟩ := h3 i ys hy
        rw [hz] at hz'
        injection hz' with hz'
        subst hz'
        exact (World.ownsRow.lt hO k hk).2
      have new : ∀ k, u.ownBlock = some k → w0.heap.size ≤ k := fun k hk => (World.ownsRow.lt hu k hk).1
      rcases Nat.lt_or_ge i cs.length with hil | hil
      · rw [List.getElem?_append_left hil] at hz
        rcases Nat.lt_or_ge j cs.length with hjl | hjl
        · rw [List.getElem?_append_left hjl] at hz'
          exact h4 i j z z' k hne hz hz' hk
        · rw [List.getElem?_append_right hjl] at hz'
          have hj : j - cs.length = 0 := by have := lt_of_at hz'; simp at this; omega
          rw [hj] at hz'
          simp at hz'
          subst hz'
          intro e
          have := low i z k hz hk
          have := new k e
          omega
      · rw [List.getElem?_append_right hil] at hz
        have hi0 : i - cs.length = 0 := by have := lt_of_at hz; simp at this; omega
        rw [hi0] at hz
        simp at hz
        subst hz
        rcases Nat.lt_or_ge j cs.length with hjl | hjl
        · rw [List.getElem?_append_left hjl] at hz'
          intro e
          have := low j z' k hz' e
          have := new k hk
          omega
        · rw [List.getElem?_append_right hjl] at hz'
          have hj0 : j - cs.length = 0 := by have := lt_of_at hz'; simp at this; omega
          omega

set_option maxRecDepth 100000 in
theorem grown_next {w wr w' : World} {v vr v' : Value} (h : w.grownBy wr v.ownBlock) (hf : Fresh w v vr) (h2 : wr.grownBy w' vr.ownBlock) (hf2 : Fresh wr vr v') : w.grownBy w' v.ownBlock ∧ Fresh w v v' := by
  have hs := h.size
  refine ⟨⟨h2.os.trans h.os, h2.tape.trans h.tape, h2.output.trans h.output, Nat.le_trans h.size h2.size, fun k hk hne => ?_⟩, ?_⟩
  · refine (h2.block k (by omega) (fun e => ?_)).trans (h.block k hk hne)
    rcases hf with hf | hf
    · exact hne (by rw [← hf]; exact e)
    · have := hf k e.symm; omega
  · rcases hf2 with hf2 | hf2
    · rcases hf with hf | hf
      · exact .inl (hf2.trans hf)
      · exact .inr (fun k hk => hf k (by rw [← hf2]; exact hk))
    · exact .inr (fun k hk => by have := hf2 k hk; omega)
set_option maxRecDepth 100000 in
theorem place_in {xs : List Int} {a : Int} : placeI xs a < 0 ↔ a ∉ xs := by
  have h := findI_nonneg (fun y => a == y) xs
  have h1 : (0 ≤ placeI xs a) ↔ a ∈ xs := by
    unfold placeI
    constructor
    · intro h0
      have : xs.any (fun y => a == y) = true := by rw [← h]; simpa using h0
      obtain ⟨y, hy, e⟩ := List.any_eq_true.1 this
      have : a = y := by simpa using e
      rw [this]; exact hy
    · intro hm
      have : xs.any (fun y => a == y) = true := List.any_eq_true.2 ⟨a, hm, by simp⟩
      rw [← h] at this
      simpa using this
  constructor
  · intro h0 hm; have := h1.2 hm; omega
  · intro hm; by_cases h0 : 0 ≤ placeI xs a
    · exact absurd (h1.1 h0) hm
    · omega

/-- What has been drawn of the orders that begin with `pre`, the next one below j. -/
def allTo (n k : Nat) (pre : List Int) (j : Nat) : List (List Int) := (upL j (notIn pre)).flatMap (fun x => allS n k (pre ++ [x]))
set_option maxRecDepth 100000 in
theorem allTo_succ (n k : Nat) (pre : List Int) (j : Nat) : allTo n k pre (j + 1) = allTo n k pre j ++ if notIn pre j then allS n k (pre ++ [(j : Int)]) else [] := by
  unfold allTo
  rw [upL_succ, List.flatMap_append]
  split <;> simp
set_option maxRecDepth 100000 in
theorem allS_len {n : Nat} (n2 : n ≤ 5) : ∀ (k : Nat) (pre : List Int), (allS n k pre).length ≤ 5 ^ k
  | 0, pre => by simp [allS]
  | k + 1, pre => by
    have key : ∀ j, (allTo n k pre j).length ≤ j * 5 ^ k := by
      intro j
      induction j with
      | zero => simp [allTo, upL]
      | succ j ih =>
        rw [allTo_succ, List.length_append, Nat.succ_mul]
        have h := allS_len n2 k (pre ++ [(j : Int)])
        split
        · omega
        · simp; omega
    have h := key n
    have h2 : n * 5 ^ k ≤ 5 * 5 ^ k := Nat.mul_le_mul_right _ n2
    rw [Nat.pow_succ, Nat.mul_comm]
    show (allTo n k pre n).length ≤ _
    omega
set_option maxRecDepth 100000 in
theorem allTo_len {n : Nat} (n2 : n ≤ 5) (k : Nat) (pre : List Int) : ∀ j, (allTo n k pre j).length ≤ j * 5 ^ k := by
  intro j
  induction j with
  | zero => simp [allTo, upL]
  | succ j ih =>
    rw [allTo_succ, List.length_append, Nat.succ_mul]
    have h := allS_len n2 k (pre ++ [(j : Int)])
    split
    · omega
    · simp; omega

open Go.RowKit

set_option maxRecDepth 100000 in
theorem OwnSS.lit1 (w : World) (u : Value) (xs : List Int) (hu : OwnI w w.heap.size u xs) (hn : u.ownBlock = none) : OwnSS (w.alloc (.cells #[u] 28)) w.heap.size (.slice (some ⟨w.heap.size, 0, none⟩) 1 1) [xs] := by
  refine ⟨[u], ⟨rfl, .inr ⟨w.heap.size, 1, #[u], rfl, Nat.le_refl _, heap_alloc_new _ _, Nat.le_refl _, by simp [maxLen], rfl, rfl⟩⟩, rfl, fun j ys h => ?_, fun i j z z' k hne hz hz' hk => ?_⟩
  · have : j = 0 := by
      have h2 := lt_of_at h
      rw [List.length_singleton] at h2; omega
    subst this
    simp at h
    subst h
    exact ⟨u, rfl, hu.ext (Ext.new _ _)⟩
  · have : i = 0 := by
      have h2 := lt_of_at hz
      rw [List.length_singleton] at h2; omega
    subst this
    simp at hz
    subst hz
    rw [hn] at hk; cases hk
set_option maxRecDepth 100000 in
theorem ordL_le : ∀ (k : Nat) (s : List Int), s.length = k → k ≤ 5 → (ordL k s).length ≤ 5 ^ k
  | 0, s, _, _ => by simp [ordL]
  | k + 1, s, hs, h5 => by
    have key : ∀ j, j ≤ s.length → ((List.range j).flatMap (fun i => (ordL k (s.eraseIdx i)).map (fun r => s.getD i 0 :: r))).length ≤ j * 5 ^ k := by
      intro j
      induction j with
      | zero => simp
      | succ j ih =>
        intro hj
        have h1 := ordL_le k (s.eraseIdx j) (by rw [List.length_eraseIdx, if_pos (by omega)]; omega) (by omega)
        have h2 := ih (by omega)
        rw [List.range_succ, List.flatMap_append, List.length_append, Nat.succ_mul]
        simp only [List.flatMap_cons, List.flatMap_nil, List.append_nil, List.length_map]
        omega
    have h1 := key s.length (Nat.le_refl _)
    have h2 : s.length * 5 ^ k ≤ 5 * 5 ^ k := Nat.mul_le_mul_right _ (by omega)
    rw [Nat.pow_succ, Nat.mul_comm]
    unfold ordL
    omega
/-- The orders that have been drawn when element j is next. -/
def ordTo (k : Nat) (s : List Int) (j : Nat) : List (List Int) := (List.range j).flatMap (fun i => (ordL k (s.eraseIdx i)).map (fun r => s.getD i 0 :: r))
def ordIn (k : Nat) (s : List Int) (j m : Nat) : List (List Int) := ordTo k s j ++ ((ordL k (s.eraseIdx j)).take m).map (fun r => s.getD j 0 :: r)
set_option maxRecDepth 100000 in
theorem ordTo_succ (k : Nat) (s : List Int) (j : Nat) : ordTo k s (j + 1) = ordIn k s j (ordL k (s.eraseIdx j)).length := by
  unfold ordTo ordIn
  rw [List.range_succ, List.flatMap_append, List.take_length]
  simp [ordTo]
set_option maxRecDepth 100000 in
theorem ordIn_succ {k : Nat} {s : List Int} {j m : Nat} {r : List Int} (h : (ordL k (s.eraseIdx j))[m]? = some r) : ordIn k s j (m + 1) = ordIn k s j m ++ [s.getD j 0 :: r] := by
  unfold ordIn
  rw [take_at h, List.map_append, List.append_assoc]; rfl
set_option maxRecDepth 100000 in
theorem ordTo_le {k : Nat} {s : List Int} (hs : s.length = k + 1) (h5 : k ≤ 4) : ∀ j, j ≤ s.length → (ordTo k s j).length ≤ j * 5 ^ k := by
  intro j
  induction j with
  | zero => simp [ordTo]
  | succ j ih =>
    intro hj
    have h1 := ordL_le k (s.eraseIdx j) (by rw [List.length_eraseIdx, if_pos (by omega)]; omega) (by omega)
    have h2 := ih (by omega)
    rw [ordTo_succ, ordIn, List.length_append, Nat.succ_mul]
    simp only [List.length_map, List.take_length]
    omega

set_option maxRecDepth 100000 in
set_option maxHeartbeats 4000000 in
theorem ord_impl : ∀ (k : Nat) (s : List Int) (w : World) (a : Option Addr) (c : Nat), s.length = k → k ≤ 5 → s.length ≤ c → RdI w a s →
    Calls Tryz.prog 64 #[.slice a s.length c] w fun e w' => ∃ v, e = .returned v ∧ OwnSS w' w.heap.size v (ordL k s) ∧ Ext w w' := by
  intro k
  induction k with
  | zero =>
    intro s w a c hs _ _ _
    have h0 : s = [] := List.length_eq_zero_iff.1 hs
    subst h0
    go_enter Tryz.func64, Tryz.ntmps64
    go_wp2
    go_ret
    exact ⟨_, rfl, OwnSS.lit1 w _ [] (OwnI.nil _ _) rfl, Ext.new _ _⟩
  | succ k ih =>
    intro s w a c hs h5 hc hR
    have hne : ((s.length : Int) == 0) = false := by rw [beq_eq_false_iff_ne]; omega
    have HS := hide hs
    have IH := hide ih
    have hc5 : s.length ≤ 5 := by omega
    have hpl : 5 ^ k ≤ 625 := Nat.pow_le_pow_right (n := 5) (by decide) (show k ≤ 4 by omega)
    clear ih hs
    go_enter Tryz.func64, Tryz.ntmps64
    go_wp2_with fail
    go_loopw [3, 4, 5, 7, 14, 28, 29, 30] (fun v _ _ _ i _ _ _ wr => ∃ j : Nat, j ≤ s.length ∧ i = .int .i64 j ∧ OwnSS wr w.heap.size v (ordTo k s j) ∧ Ext w wr) (fun _ _ _ _ i _ _ _ _ => s.length - (intOf i).toNat)
    case atStart => exact ⟨0, Nat.zero_le _, rfl, OwnSS.nil _ _, Ext.refl _⟩
    case round =>
      obtain ⟨j, hj, rfl, hown, hwr⟩ := hrel
      by_cases hjt : j < s.length
      · obtain ⟨x, hx⟩ := at_of_lt hjt
        obtain ⟨b, off, rfl, c0⟩ := (hR.ext hwr).at_ hx
        have hRr := hR.ext hwr
        have i1 : (j : Int) + 1 ≤ (c : Int) := by omega
        have i2 : j ≤ c := by omega
        have i3 : j + 1 ≤ c := by omega
        have i4 : j + 1 ≤ s.length := by omega
        have i7 : (j : Int) + 1 ≤ (s.length : Int) := by omega
        have i5 : ((j : Int) + 1).toNat = j + 1 := by omega
        have i6 : (0 : Int) ≤ (j : Int) + 1 := by omega
        have y1 : wrap64 ((j : Int) + 1) = (j : Int) + 1 := IntWalk.wrap64_in _ (by omega)
        have y2 : IntKind.i64.wrap ((j : Int) + 1) = (j : Int) + 1 := IntWalk.i64_in _ (by omega)
        go_wp2
        refine wp_region_O [11,0,1,2,3,4,5,6,7,8,9,10] (by kernel_rfl) rfl (by kernel_rfl) ?_
        repeat' (refine wpO_stepQ rfl (fun K hK => ?_)
                 go_simp
                 try (rw [if_neg (by intro h; simp [undef] at h)])
                 try split
                 all_goals
                   first
                   | (refine hK _ ?_
                      clear hK K)
                   | (apply Exists.intro
                      refine ⟨fun wq hwq => ?_, hK _ ?_⟩
                      · have hcq := hwq.cellS
                        go_simp
                        first
                        | exact ⟨Ext.refl _, rfl⟩
                      clear hK K))
        refine wpO_stepS rfl (by kernel_rfl) (fun K hK wq hwq => ?_)
        go_simp
        refine ⟨(by repeat (first | exact Ext.refl _ | assumption | refine Ext.alloc ?_ _ | refine Ext.drew ?_ | refine Ext.trans ?_ (by assumption))), hK _ _ ?_⟩
        clear hK K
        have hRd := hRr.drop (n := off + (j + 1)) (j + 1) c hc rfl
        generalize (if c = j + 1 then some (⟨b, off, none⟩ : Addr) else some ⟨b, off + (j + 1), none⟩) = A at hRd ⊢
        have f0 := new0 wq (.slice (some ⟨b, off, none⟩) j c) [.slice A (s.length - (j + 1)) (c - (j + 1))] 28
        have f1 := new1 wq (.slice (some ⟨b, off, none⟩) j c) (.slice A (s.length - (j + 1)) (c - (j + 1))) [] 28
        have hE8 : Ext wr (wq.alloc (.cells #[.slice (some ⟨b, off, none⟩) j c, .slice A (s.length - (j + 1)) (c - (j + 1))] 28)) := hwq.alloc _
        obtain ⟨gq, hgq⟩ : ∃ gq : Nat, gq = wq.heap.size := ⟨_, rfl⟩
        rw [← hgq] at f0 f1 ⊢
        generalize wq.alloc (.cells #[.slice (some ⟨b, off, none⟩) j c, .slice A (s.length - (j + 1)) (c - (j + 1))] 28) = wa at f0 f1 hE8 ⊢
        have HC : Hid (∀ w', Ext wa w' → Calls Tryz.prog 104 #[.slice (some ⟨gq, 0, none⟩) 2 2] w' fun e w'' => ∃ v, e = .returned v ∧ OwnI w'' w'.heap.size v (s.take j ++ s.drop (j + 1)) ∧ Ext w' w'') := fun w' hw' => by
          have l1 : (s.take j).length = j := by rw [List.length_take]; omega
          have l2 : (s.drop (j + 1)).length = s.length - (j + 1) := List.length_drop
          refine cat_impl w' gq (some ⟨b, off, none⟩) A c (c - (j + 1)) (s.take j) (s.drop (j + 1)) ?_ ?_ ?_ ?_ ?_
          · rw [l1]; exact hw'.keep f0
          · rw [l2]; exact hw'.keep f1
          · exact (hRr.ext (hE8.trans hw')).take j
          · exact hRd.ext (hE8.trans hw')
          · omega
        clear f0 f1 hgq hRd
        refine wpO_stepS rfl (by kernel_rfl) (fun K hK wq hwq => ?_)
        go_simp
        refine (HC.out _ hwq).mono ?_
        rintro e w3 ⟨v, rfl, hv, hw3⟩
        refine ⟨hw3, hK _ _ ?_⟩
        clear hK K
        have he : s.take j ++ s.drop (j + 1) = s.eraseIdx j := (List.eraseIdx_eq_take_drop_succ s j).symm
        rw [he] at hv
        have hel : (s.eraseIdx j).length = k := by
          have := HS.out
          rw [List.length_eraseIdx, if_pos hjt]; omega
        have hE9 : Ext wr w3 := hE8.trans (hwq.trans hw3)
        have HEL := hide hel
        obtain ⟨a2, c2, rfl, hc2, _, hR2, _⟩ := hv.val
        obtain ⟨wb, hwb⟩ : ∃ wb : World, wb = w3 := ⟨_, rfl⟩
        subst hwb
        have HI : Hid (∀ w', Ext wb w' → Calls Tryz.prog 64 #[.slice a2 (s.eraseIdx j).length c2] w' fun e w'' => ∃ v, e = .returned v ∧ OwnSS w'' w'.heap.size v (ordL k (s.eraseIdx j)) ∧ Ext w' w'') := fun w' hw' => IH.out (s.eraseIdx j) w' a2 c2 hel (by omega) hc2 (hR2.ext hw')
        clear hel hv hwq hw3 hE8 HC he hR2
        refine wpO_stepS rfl (by kernel_rfl) (fun K hK wq hwq => ?_)
        go_simp
        refine (HI.out _ hwq).mono ?_
        rintro e w4 ⟨v, rfl, hv4, hw4⟩
        refine ⟨hw4, hK _ _ ?_⟩
        clear hK K
        have hE10 : Ext wr w4 := hE9.trans (hwq.trans hw4)
        have hlo : wr.heap.size ≤ wq.heap.size := (hE9.trans hwq).size
        obtain ⟨lo, hlo'⟩ : ∃ lo : Nat, lo = wq.heap.size := ⟨_, rfl⟩
        rw [← hlo'] at hv4 hlo
        have hrl := ordL_le k (s.eraseIdx j) HEL.out (by omega)
        have hlow4 : lo ≤ w4.heap.size := by rw [hlo']; exact hw4.size
        have HRL : Hid (∀ r ∈ ordL k (s.eraseIdx j), r.length = k) := ordL_len k (s.eraseIdx j) HEL.out
        clear hwq hw4 hE9 hlo' HI
        have hT := ordTo_le HS.out (by omega) j hj
        have hT2 : j * 5 ^ k ≤ 5 * 5 ^ k := Nat.mul_le_mul_right _ (by omega)
        have hS0 : ordTo k s j = ordIn k s j 0 := by simp [ordIn]
        have hS1 := ordTo_succ k s j
        rw [hS0] at hown hT
        have HS1 := hide hS1
        have HIN : Hid (∀ m r, (ordL k (s.eraseIdx j))[m]? = some r → ordIn k s j (m + 1) = ordIn k s j m ++ [s.getD j 0 :: r]) := fun m r h => ordIn_succ h
        have HLN : Hid (∀ m, (ordIn k s j m).length ≤ (ordIn k s j 0).length + m) := fun m => by
          unfold ordIn
          simp only [List.length_append, List.length_map, List.length_take]
          omega
        have hgd : s.getD j 0 = x := by simp [List.getD, hx]
        rw [hgd] at HIN
        generalize ordL k (s.eraseIdx j) = rows at hv4 hrl HRL HS1 HIN
        clear hS0 hS1 hgd hx c0 HEL
        have hv5 := hv4.wr
        obtain ⟨av, cv, rfl, hcv, _⟩ := hv5
        have hv5 := hv4.wr
        clear hv4
        repeat' (refine wpO_stepQ rfl (fun K hK => ?_)
                 go_simp
                 try (rw [if_neg (by intro h; simp [undef] at h)])
                 try split
                 all_goals
                   first
                   | (refine hK _ ?_
                      clear hK K)
                   | (apply Exists.intro
                      refine ⟨fun wq hwq => ?_, hK _ ?_⟩
                      · have hcq := hwq.cellS
                        go_simp
                        first
                        | exact ⟨Ext.refl _, rfl⟩
                      clear hK K))
        refine wpO_nil (fun wz hwz => ?_)
        obtain ⟨wc, hwc⟩ : ∃ wc : World, wc = wz := ⟨_, rfl⟩
        subst hwc
        have hE11 := hE10.trans hwz
        have hv6 := hv5.ext hwz
        have hlow : lo ≤ wc.heap.size := Nat.le_trans hlow4 hwz.size
        have hob : Hid (∀ q, u3.ownBlock = some q → q < lo ∨ wc.heap.size ≤ q) := fun q hq => by
          obtain ⟨cs, hcs, _⟩ := hown
          have := (World.ownsRow.lt hcs q hq).2
          omega
        have hown := hown.ext hE11
        clear hE10 hwz hv5 hlow4
        have hwr0 := hwr.trans hE11
        clear hE11 hwr hRr hT2
        have hT3 : (ordIn k s j 0).length ≤ 3125 := by
          have : j * 5 ^ k ≤ 5 * 625 := Nat.mul_le_mul (by omega) hpl
          omega
        go_wp2_with fail
        go_loopw [3, 7, 30] (fun v _ m wr => ∃ q : Nat, q ≤ rows.length ∧ m = .int .i64 q ∧ OwnSS wr w.heap.size v (ordIn k s j q) ∧ Ext w wr ∧ Keeps lo wc.heap.size wc wr ∧ Hid (∀ b, v.ownBlock = some b → b < lo ∨ wc.heap.size ≤ b)) (fun _ _ m _ => rows.length - (intOf m).toNat)
        case atStart => exact ⟨0, Nat.zero_le _, rfl, hown, hwr0, Keeps.refl _ _ _, hob⟩
        case round =>
          clear hown hwr0 hob
          obtain ⟨q, hq, rfl, hown, hwr, hkp, hob⟩ := hrel
          have hln := HLN.out q
          have hcw := hkp.1
          by_cases hqt : q < rows.length
          · obtain ⟨r, hr⟩ := at_of_lt hqt
            obtain ⟨g, c3, a3, c4, hav, d0, hc4, hR3⟩ := (hv6.keeps hkp (Nat.le_refl _)).at_ hr
            injection hav with hav hav2 hav3
            subst hav
            subst hav3
            clear hav2
            have hrk := hide (HRL.out r (List.mem_of_getElem? hr))
            have HR := hide hr
            have l0 := (OwnI.lit1 wr x).rdI
            have f0 := new0 (wr.alloc (.cells #[.int .i64 x] 3)) (.slice (some ⟨wr.heap.size, 0, none⟩) 1 1) [.slice a3 r.length c4] 28
            have f1 := new1 (wr.alloc (.cells #[.int .i64 x] 3)) (.slice (some ⟨wr.heap.size, 0, none⟩) 1 1) (.slice a3 r.length c4) [] 28
            have hs1 : (wr.alloc (.cells #[.int .i64 x] 3)).heap.size = wr.heap.size + 1 := by simp
            rw [hs1] at f0 f1
            have hE5 : Ext wr ((wr.alloc (.cells #[.int .i64 x] 3)).alloc (.cells #[.slice (some ⟨wr.heap.size, 0, none⟩) 1 1, .slice a3 r.length c4] 28)) := (Ext.new _ _).trans (Ext.new _ _)
            have HC := hide (cat_impl _ (wr.heap.size + 1) (some ⟨wr.heap.size, 0, none⟩) a3 1 c4 [x] r f0 f1 (l0.ext (Ext.new _ _)) (hR3.ext hE5) (by have := hrk.out; simp; omega))
            clear hr f0 f1 l0
            go_wp2_with fail
            refine HC.out.mono ?_
            rintro e w3 ⟨v3, rfl, hv3, hw3⟩
            have hE6 := hE5.trans hw3
            have hv3 := hv3.base hE5.size
            obtain ⟨a5, n5, c5, rfl⟩ := hv3.form
            clear HC hE5 hw3 hR3 d0
            go_wp2_with (at_builtin; go_loud (refine wpList_appSF w wr _ rfl _ _ rfl _ (ordIn k s j q) _ (x :: r) rfl (by exact hown) hwr hE6 (by exact hv3) rfl (by omega) ?_); intro v' w4 h1 h2 h3 h4)
            have hkp2 := (hkp.ext hE6 hcw).grown h3 (Nat.le_trans hcw hE6.size) hob.out
            exact ⟨⟨q + 1, by omega, by go_num, by rw [HIN.out q r HR.out]; exact h1, h2, hkp2, h4.out hob.out (Nat.le_trans hcw hE6.size)⟩, by simp [intOf]; omega⟩
          · have hqn : q = rows.length := by omega
            go_wp2
            rw [hqn, ← HS1.out] at hown
            exact ⟨⟨j + 1, by omega, by go_num, hown, hwr⟩, by simp [intOf]; omega⟩
      · have hjn : j = s.length := by omega
        go_wp2
        go_ret
        rw [hjn] at hown
        exact ⟨_, rfl, hown, hwr⟩

set_option maxRecDepth 100000 in
set_option maxHeartbeats 1000000 in
theorem allR_impl (w : World) (n : Nat) (n1 : 1 ≤ n) (n2 : n ≤ 5) :
    Calls Tryz.prog 40 #[.int .i64 n] w fun e w' => ∃ v, e = .returned v ∧ OwnSS w' w.heap.size v (allO n) ∧ Ext w w' := by
  have hin : inR (n : Int) 1 5 = true := inR_iff.2 (by omega)
  go_enter Tryz.func40, Tryz.ntmps40
  go_wp2_with (go_at_call 26; refine (in_impl _ _ _ _).mono ?_; rintro e w1 ⟨rfl, hw1⟩)
  refine (indices_impl _ n n2).mono ?_
  rintro e w2 ⟨rfl, hB, hw2⟩
  have hl : (leftL n []).length = n := by rw [leftL_nil, upL_true_len]
  have hRd := hB.rdL (xs := leftL n []) (by omega) (fun j x hx => by
    rw [leftL_nil, ← iotaL_up] at hx
    obtain ⟨_, rfl⟩ := rowL_val hx
    rfl)
  have h := ord_impl n (leftL n []) w2 (some ⟨w1.heap.size, 0, none⟩) n hl n2 (by omega) hRd
  rw [hl, ← all_eq] at h
  have HH := hide h
  clear h hl hRd
  go_wp2_with fail
  refine HH.out.mono ?_
  rintro e w3 ⟨v, rfl, hO, hE⟩
  go_wp2
  go_ret
  exact ⟨_, rfl, hO.base (Nat.le_trans hw1.size hw2.size), hw1.trans (hw2.trans hE)⟩

set_option maxRecDepth 100000 in
theorem bkTo_bd (q : Int → Int → Bool) (r : List Int) : ∀ k, bkTo q r k ≤ k * r.length
  | 0 => by simp [bkTo]
  | k + 1 => by
    have h := bkTo_bd q r k
    have h2 := List.countP_le_length (p := fun y => q y (r.getD k 0)) (l := r.drop (k + 1))
    rw [List.length_drop] at h2
    rw [bkTo, Nat.succ_mul]
    omega
set_option maxRecDepth 100000 in
theorem countP_at {p : Int → Bool} {xs : List Int} {k : Nat} {x : Int} (h : xs[k]? = some x) : (xs.take (k + 1)).countP p = (xs.take k).countP p + if p x then 1 else 0 := by
  rw [take_at h, List.countP_append, List.countP_cons, List.countP_nil]; simp

/-- The ranking, and whether there is one. -/
def mjL (sz : Int) (vs : List Vt) : List Int := if profOk sz vs then (mjO sz.toNat vs).getD [] else []
def mjB (sz : Int) (vs : List Vt) : Bool := if profOk sz vs then (mjO sz.toNat vs).isSome else false
set_option maxRecDepth 100000 in
theorem WrSS.own {w : World} {B : Nat} {v : Value} {xss : List (List Int)} (h : WrSS w B v xss) {k : Nat} {xs : List Int} (hx : xss[k]? = some xs) :
    ∃ g c a' c', v = .slice (some ⟨g, 0, none⟩) xss.length c ∧ w.cell? ⟨g, k, none⟩ = some (.slice a' xs.length c') ∧ xs.length ≤ c' ∧ OwnI w B (.slice a' xs.length c') xs := by
  obtain ⟨a, c, hv, hc, ho⟩ := h
  obtain ⟨g, us, rfl, hM⟩ := ho (ne_of_at hx)
  have h1 := hM.row k (lt_of_at hx)
  simp only [List.getD, hx, Option.getD_some] at h1
  obtain ⟨a', c', hu, hc', _, hR, _⟩ := h1.val
  refine ⟨g, c, a', c', hv, by rw [hM.outer.cell k (lt_of_at hx), hu], hc', ?_⟩
  rw [← hu]; exact h1

set_option maxRecDepth 100000 in
set_option maxHeartbeats 4000000 in
theorem least_impl (K : Nat) (fst cap : Array Value) (cost : List Int → Int) (w : World) (n : Nat) (a : Option Addr) (c : Nat) (vs : List Vt) (hR : RdV w a vs) (h0 : profOk n vs = true) (n1 : 1 ≤ n) (n2 : n ≤ 5) (hK : Enters Tryz.prog K)
    (hf : ∀ (r : List Int) (a' : Option Addr) (c' : Nat) (w' : World), rkOk n r = true → r.length ≤ c' → RdI w' a' r → Ext w w' → Calls Tryz.prog K (fst.push (.slice a' r.length c') ++ cap) w' fun e w'' => e = .returned (.int .i64 (cost r)) ∧ Ext w' w'') :
    Calls Tryz.prog 97 #[.agg #[.int .i64 n, .slice a vs.length c], .func (.func K) fst cap] w fun e w' => ∃ v, e = .returned (.tuple #[v, .int .i64 (lstR cost n).2.1, .int .i64 ((lstR cost n).2.2 : Nat)]) ∧ OwnI w' w.heap.size v (lstR cost n).1 ∧ Ext w w' := by
  unfold Enters at hK
  have HF := hide hf
  clear hf
  have q0 := new0 w (.int .i64 n) [.slice a vs.length c] 26
  have q1 := new1 w (.int .i64 n) (.slice a vs.length c) [] 26
  have hnil : ∀ (W : World) (a : Addr) (n c : Nat), (binOp .eql 28 (.slice (some a) n c) (.slice none 0 0)).run Tryz.prog W = .ok (.bool false) W := fun W a n c => Lib.run_eql_slice_some_nil W a n c Tryz.underlying28
  have hnn : ∀ (W : World), (binOp .eql 28 (.slice none 0 0) (.slice none 0 0)).run Tryz.prog W = .ok (.bool true) W := fun W => Lib.run_eql_slice_nil_nil W 0 0 Tryz.underlying28
  go_enter Tryz.func97, Tryz.ntmps97
  go_wp2_with (go_at_call 25; refine (prof_impl _ _ _ _ _ (hR.ext (by repeat (first | exact Ext.refl _ | assumption | refine Ext.alloc ?_ _ | refine Ext.drew ?_ | refine Ext.trans ?_ (by assumption))))).mono ?_; rintro e w1 ⟨rfl, hw1⟩; have q0 := Ext.keep (w' := w1) (by repeat (first | exact Ext.refl _ | assumption | refine Ext.alloc ?_ _ | refine Ext.drew ?_ | refine Ext.trans ?_ (by assumption))) q0; have q1 := Ext.keep (w' := w1) (by repeat (first | exact Ext.refl _ | assumption | refine Ext.alloc ?_ _ | refine Ext.drew ?_ | refine Ext.trans ?_ (by assumption))) q1)
  refine (allR_impl _ n n1 n2).mono ?_
  rintro e w2 ⟨v, rfl, hv, hw2⟩
  have hw : Ext w w2 := (by repeat (first | exact Ext.refl _ | assumption | refine Ext.alloc ?_ _ | refine Ext.drew ?_ | refine Ext.trans ?_ (by assumption)))
  have hlow : w.heap.size ≤ w1.heap.size := Ext.size (by repeat (first | exact Ext.refl _ | assumption | refine Ext.alloc ?_ _ | refine Ext.drew ?_ | refine Ext.trans ?_ (by assumption)))
  have HM : Hid (∀ r ∈ allO n, rkOk n r = true) := fun r hr => (allO_mem n1 n2).1 hr
  have HL : Hid (lstR cost n = lstT cost (allO n) (allO n).length) := rfl
  have hrl : (allO n).length ≤ 3125 := Nat.le_trans (allS_len n2 n []) (Nat.pow_le_pow_right (n := 5) (by decide) n2)
  have hrp := allO_pos n1 n2
  generalize allO n = rows at hv HM HL hrl hrp
  have hv := hv.wr
  have hv' := hv
  obtain ⟨av, cv, rfl, hcv, hju⟩ := hv'
  clear hju hw1 hw2 q0 q1 h0
  obtain ⟨wb, hwb⟩ : ∃ wb : World, wb = w2 := ⟨_, rfl⟩
  subst hwb
  go_wp2_with fail
  go_loopw [7, 8, 9, 11, 12, 20, 27, 37] (fun v l m _ _ i _ _ wr => ∃ k : Nat, k ≤ rows.length ∧ i = .int .i64 k ∧ l = .int .i64 (lstT cost rows k).2.1 ∧ m = .int .i64 ((lstT cost rows k).2.2 : Nat) ∧ Hid ((k = 0 → v = .slice none 0 0) ∧ (1 ≤ k → OwnI wr w.heap.size v (lstT cost rows k).1)) ∧ Ext wb wr) (fun _ _ _ _ _ i _ _ _ => rows.length - (intOf i).toNat)
  case atStart => exact ⟨0, Nat.zero_le _, rfl, rfl, rfl, ⟨fun _ => rfl, fun h => absurd h (by omega)⟩, Ext.refl _⟩
  case round =>
    obtain ⟨k, hk, rfl, rfl, rfl, hb, hwr⟩ := hrel
    by_cases hkt : k < rows.length
    · obtain ⟨r, hr⟩ := at_of_lt hkt
      obtain ⟨g, c3, a3, c4, hav, d0, hc4, hO⟩ := (hv.ext hwr).own hr
      injection hav with hav hav2 hav3
      subst hav
      subst hav3
      clear hav2
      have hrk := HM.out r (List.mem_of_getElem? hr)
      have HOb := hide (hO.base hlow)
      have HC := hide (fun w' (hw' : Ext wr w') => HF.out r a3 c4 w' hrk hc4 (hO.rdI.ext hw') ((hw.trans hwr).trans hw'))
      have HR := hide hr
      have hcn := lstT_cnt (cost := cost) (xss := rows) k
      have y1 : wrap64 (((lstT cost rows k).2.2 : Int) + 1) = ((lstT cost rows k).2.2 : Int) + 1 := IntWalk.wrap64_in _ (by omega)
      clear hr hrk hO
      by_cases hk0 : k = 0
      · have HT := hide (lstT_new (cost := cost) HR.out (.inl hk0))
        have hu := hb.out.1 hk0
        subst hu
        clear hk0 y1
        go_wp2_with fail
        refine (HC.out _ (by repeat (first | exact Ext.refl _ | assumption | refine Ext.alloc ?_ _ | refine Ext.drew ?_ | refine Ext.trans ?_ (by assumption)))).mono ?_
        rintro e w3 ⟨rfl, hw3⟩
        go_wp2
        exact ⟨⟨k + 1, by omega, by go_num, by rw [HT.out], by rw [HT.out]; rfl, hide ⟨fun h => absurd h (by omega), fun _ => by rw [HT.out]; exact HOb.out.ext hw3⟩, hwr.trans hw3⟩, by simp [intOf]; omega⟩
      · have hbo := hb.out.2 (by omega)
        have hmem := lstT_mem (cost := cost) (xss := rows) k (by omega) hk
        obtain ⟨a7, c7, rfl, _, _, hR7, ho7⟩ := hbo.val
        have hlb := (rk_len (HM.out _ hmem.1)).1
        obtain ⟨g7, hg7, _⟩ := ho7 (fun e => by rw [e] at hlb; simp at hlb; omega)
        subst hg7
        have HBO := hide hbo
        have HK0 := hide hk0
        have hcr := hc4
        clear hR7 ho7 hmem hbo hk0 hlb hcr hb
        rcases (show cost r < (lstT cost rows k).2.1 ∨ cost r = (lstT cost rows k).2.1 ∨ (lstT cost rows k).2.1 < cost r by omega) with hlt | heq | hgt
        · have HT := hide (lstT_new (cost := cost) HR.out (.inr hlt))
          go_wp2_with fail
          refine (HC.out _ (by repeat (first | exact Ext.refl _ | assumption | refine Ext.alloc ?_ _ | refine Ext.drew ?_ | refine Ext.trans ?_ (by assumption)))).mono ?_
          rintro e w3 ⟨rfl, hw3⟩
          go_wp2
          exact ⟨⟨k + 1, by omega, by go_num, by rw [HT.out], by rw [HT.out]; rfl, hide ⟨fun h => absurd h (by omega), fun _ => by rw [HT.out]; exact HOb.out.ext hw3⟩, hwr.trans hw3⟩, by simp [intOf]; omega⟩
        · have HT := hide (lstT_tie (cost := cost) HR.out HK0.out heq)
          have t1 : ¬ cost r < (lstT cost rows k).2.1 := by omega
          have t2 : (cost r == (lstT cost rows k).2.1) = true := by rw [beq_iff_eq]; exact heq
          have HQ := hide heq
          clear heq
          go_wp2_with fail
          refine (HC.out _ (by repeat (first | exact Ext.refl _ | assumption | refine Ext.alloc ?_ _ | refine Ext.drew ?_ | refine Ext.trans ?_ (by assumption)))).mono ?_
          rintro e w3 ⟨rfl, hw3⟩
          go_wp2
          exact ⟨⟨k + 1, by omega, by go_num, by rw [HT.out], by rw [HT.out]; exact congrArg (Value.int .i64) (by simp), hide ⟨fun h => absurd h (by omega), fun _ => by rw [HT.out]; exact HBO.out.ext hw3⟩, hwr.trans hw3⟩, by simp [intOf]; omega⟩
        · have HT := hide (lstT_old (cost := cost) HR.out HK0.out hgt)
          have t1 : ¬ cost r < (lstT cost rows k).2.1 := by omega
          have t2 : (cost r == (lstT cost rows k).2.1) = false := by rw [beq_eq_false_iff_ne]; omega
          go_wp2_with fail
          refine (HC.out _ (by repeat (first | exact Ext.refl _ | assumption | refine Ext.alloc ?_ _ | refine Ext.drew ?_ | refine Ext.trans ?_ (by assumption)))).mono ?_
          rintro e w3 ⟨rfl, hw3⟩
          go_wp2
          exact ⟨⟨k + 1, by omega, by go_num, by rw [HT.out], by rw [HT.out], hide ⟨fun h => absurd h (by omega), fun _ => by rw [HT.out]; exact HBO.out.ext hw3⟩, hwr.trans hw3⟩, by simp [intOf]; omega⟩
    · have hkn : k = rows.length := by omega
      have HE : Hid (lstR cost n = lstT cost rows k) := hide (by rw [HL.out, hkn])
      have hbo := hide (hb.out.2 (by omega))
      clear hkn hb
      go_wp2
      go_ret3
      refine ⟨_, (by rw [HE.out]; rfl), ?_, hw.trans hwr⟩
      rw [HE.out]
      exact hbo.out

end Go.Proofs.YtfmeklgdaabooaaGreatDoor
