/- What FnGains says of a profile: the best reply, and that with two candidates nobody gains (plain law). Votes in memory: parts of a list, votes that are copied as they are, and a ranking that is replaced. Rankings that are copied, raised, turned round and cut, of the program. Rankings that are raised, cut and turned round, of the program and of the spec. Rankings that are turned round or left by a candidate, and copies made by append. Rankings that are turned round or left by a candidate, of the program and of the spec. Profiles that are copied, turned round, or left by a candidate. -/
import Derived.Test.YtfmeklgdaabooaaGreatDoorCn21
import Derived.Test.YtfmeklgdaabooaaGreatDoorCn8
import Derived.Test.YtfmeklgdaabooaaGreatDoorCn7
import Derived.Test.YtfmeklgdaabooaaGreatDoorCn16
import Derived.Lib.BufferMore
import Derived.Test.YtfmeklgdaabooaaGreatDoorCn6
import Derived.Test.YtfmeklgdaabooaaGreatDoorCn9
namespace Go.Proofs.YtfmeklgdaabooaaGreatDoor
open Go.RowKit

set_option maxRecDepth 100000 in
theorem sumV_set {p : List Int → Bool} : ∀ {vs : List Vt} {k : Nat} {x : Vt} (y : Vt), vs[k]? = some x → sumV p (vs.set k y) = sumV p vs - (if p x.1 then x.2 else 0) + (if p y.1 then y.2 else 0)
  | [], _, _, _, h => by simp at h
  | z :: vs, 0, x, y, h => by
    simp at h
    subst h
    rw [List.set_cons_zero, sumV_cons, sumV_cons]
    omega
  | z :: vs, k + 1, x, y, h => by
    have ih := sumV_set (p := p) (vs := vs) (k := k) (x := x) y (by simpa using h)
    rw [List.set_cons_succ, sumV_cons, sumV_cons, ih]
    omega
/-- Two candidates: what a ballot says. -/
def chkTwo : Bool := (allO 2).all fun r => (List.range 2).all fun a => (List.range 2).all fun b => a == b || ((plcP a 0 r == prefB r a b) && (decide (pluW (placeI r a).toNat = if prefB r a b then 1 else 0) && (decide (borW 2 (placeI r a).toNat = if prefB r a b then 1 else 0) && (decide (vetW 2 (placeI r a).toNat = if prefB r a b then 1 else 0) && (lsP [0, 1] a r == prefB r b a)))))
set_option maxRecDepth 100000 in
theorem chk_two : chkTwo = true := by decide +kernel
set_option maxRecDepth 100000 in
theorem two_r {r : List Int} (h : rkOk (2 : Nat) r = true) {a b : Nat} (ha : a < 2) (hb : b < 2) (hne : a ≠ b) : plcP a 0 r = prefB r a b ∧ pluW (placeI r a).toNat = (if prefB r a b then 1 else 0) ∧ borW 2 (placeI r a).toNat = (if prefB r a b then 1 else 0) ∧ vetW 2 (placeI r a).toNat = (if prefB r a b then 1 else 0) ∧ lsP [0, 1] a r = prefB r b a := by
  have h1 := List.all_eq_true.1 (List.all_eq_true.1 (List.all_eq_true.1 chk_two r ((allO_mem (by omega) (by omega)).2 h)) a (List.mem_range.2 ha)) b (List.mem_range.2 hb)
  have h2 : (a == b) = false := beq_eq_false_iff_ne.2 hne
  rw [h2, Bool.false_or] at h1
  simp only [Bool.and_eq_true, decide_eq_true_eq, beq_iff_eq] at h1
  exact h1
set_option maxRecDepth 100000 in
theorem two_sco (f : Nat → Int) {a b : Nat} (hf : ∀ r : List Int, rkOk (2 : Nat) r = true → f (placeI r a).toNat = if prefB r a b then 1 else 0) : ∀ {vs : List Vt}, SmallV (2 : Nat) vs → scoV f vs a = pairV vs a b
  | [], _ => rfl
  | x :: vs, h => by
    have ih := two_sco f hf h.tail
    unfold pairV at ih ⊢
    rw [scoV_cons, sumV_cons, ih, hf x.1 h.head.1]
    split <;> simp
set_option maxRecDepth 100000 in
theorem two_strict {vs : List Vt} (h0 : profOk (2 : Nat) vs = true) {a b : Nat} (ha : a < 2) (hb : b < 2) (hne : a ≠ b) (hlt : pairV vs b a < pairV vs a b) {rule : Int} (r1 : 1 ≤ rule) (r2 : rule ≤ 13) : winB rule (2 : Nat) vs = a := by
  have hS := prof_small h0
  have htot := pair_tot ha hb hne hS
  have hfst : fstV vs a = pairV vs a b := by
    unfold fstV plcV pairV
    exact sumV_congr (p := plcP a 0) (q := fun r => prefB r a b) (fun x hx => (two_r (hS.2 x hx).1 ha hb hne).1)
  have hm : allV vs < 2 * fstV vs a := by omega
  have hbt := maj_beats hS ha hm
  have hsc : ∀ f : Nat → Int, scoV f vs a = pairV vs a b → scoV f vs b = pairV vs b a → BestAt 2 (scoV f vs) a := fun f e1 e2 => ⟨ha, fun j hj => by
      by_cases e : j = a
      · rw [e]; exact Int.le_refl _
      · have : j = b := by omega
        rw [this, e1, e2]
        omega, fun j hj => by
      have : j = b := by omega
      rw [this, e1, e2]
      exact hlt⟩
  rcases (show rule = 1 ∨ rule = 2 ∨ rule = 3 ∨ rule = 6 ∨ rule = 7 ∨ rule = 8 ∨ rule = 10 ∨ (rule = 4 ∨ rule = 5 ∨ rule = 9 ∨ rule = 11 ∨ rule = 12 ∨ rule = 13) by omega) with rfl | rfl | rfl | rfl | rfl | rfl | rfl | hr
  · exact winB_at h0 (by omega) (by omega) (hsc pluW (two_sco pluW (fun r h => (two_r h ha hb hne).2.1) hS) (two_sco pluW (fun r h => (two_r h hb ha (fun e => hne e.symm)).2.1) hS))
  · exact winB_at h0 (by omega) (by omega) (hsc (borW 2) (two_sco _ (fun r h => (two_r h ha hb hne).2.2.1) hS) (two_sco _ (fun r h => (two_r h hb ha (fun e => hne e.symm)).2.2.1) hS))
  · exact winB_at h0 (by omega) (by omega) (hsc (vetW 2) (two_sco _ (fun r h => (two_r h ha hb hne).2.2.2.1) hS) (two_sco _ (fun r h => (two_r h hb ha (fun e => hne e.symm)).2.2.2.1) hS))
  · unfold winB
    rw [winO_eq h0]
    show ([runO (2 : Nat) vs] : List Int).headD (-1) = a
    rw [maj_run h0 ha hm]
    rfl
  · unfold winB
    rw [winO_eq h0]
    show ([lastI (elimO (2 : Nat) vs (worF vs))] : List Int).headD (-1) = a
    unfold elimO
    rw [if_pos h0, Int.toNat_natCast, maj_inst hS ha hm]
    rfl
  · unfold winB
    rw [winO_eq h0]
    show ([lastI (elimO (2 : Nat) vs (worL vs))] : List Int).headD (-1) = a
    unfold elimO
    rw [if_pos h0, Int.toNat_natCast]
    have hst : lastI (elimL 2 (worL vs) 2) = a := elim_stay ha (fun k hk hin hp => by
      obtain ⟨y, hy, hyl, hya⟩ := left_other (W := worL vs) hk a
      have hk0 : k = 0 := by omega
      subst hk0
      have hl : leftL 2 (elimL 2 (worL vs) 0) = [0, 1] := by rw [elimL]; decide
      rw [hl] at hp hyl
      have h1 := pickV_least (f := worL vs [0, 1]) (xs := [0, 1]) (by decide) (by decide) y hyl
      rw [hp] at h1
      have hyb : y = b := by omega
      subst hyb
      have w1 : worL vs [0, 1] a = - pairV vs y a := by
        unfold worL pairV
        rw [sumV_congr (p := lsP [0, 1] (a : Int)) (q := fun r => prefB r y a) (fun x hx => (two_r (hS.2 x hx).1 ha hb hne).2.2.2.2)]
      have w2 : worL vs [0, 1] y = - pairV vs a y := by
        unfold worL pairV
        rw [sumV_congr (p := lsP [0, 1] (y : Int)) (q := fun r => prefB r a y) (fun x hx => (two_r (hS.2 x hx).1 hb ha (fun e => hne e.symm)).2.2.2.2)]
      omega)
    rw [hst]
    rfl
  · unfold winB
    rw [winO_eq h0]
    show ([bukO (2 : Nat) vs] : List Int).headD (-1) = a
    rw [maj_buk h0 ha hm]
    rfl
  · exact con_win h0 ha hbt hr
set_option maxRecDepth 100000 in
theorem set_ok {n : Nat} {vs : List Vt} {k : Nat} {x : Vt} {r : List Int} (h0 : profOk n vs = true) (hx : vs[k]? = some x) (hr : rkOk n r = true) : profOk n (vs.set k (r, x.2)) = true := by
  have hxm := List.mem_of_getElem? hx
  unfold profOk at h0 ⊢
  simp only [Bool.and_eq_true, decide_eq_true_eq, List.all_eq_true] at h0 ⊢
  refine ⟨h0.1, by rw [List.length_set]; exact h0.2.1, fun y hy => ?_⟩
  rcases List.mem_or_eq_of_mem_set hy with h | h
  · exact h0.2.2 y h
  · subst h
    have h2 := h0.2.2 x hxm
    unfold vtOk at h2 ⊢
    simp only [Bool.and_eq_true] at h2 ⊢
    exact ⟨hr, h2.2⟩
set_option maxRecDepth 100000 in
theorem gnW_self {rule sz : Int} {vs : List Vt} {k : Nat} {x : Vt} (hx : vs[k]? = some x) : gnW rule sz vs k x.1 = winB rule sz vs := by
  unfold gnW
  have hgd : vs.getD k ([], 0) = x := by simp [List.getD, hx]
  rw [hgd]
  have hl := lt_of_at hx
  have : vs.set k (x.1, x.2) = vs := by
    rw [List.getElem?_eq_getElem hl] at hx
    injection hx with hx
    rw [show (x.1, x.2) = vs[k] by rw [hx], List.set_getElem_self]
  rw [this]
def chkSame : Bool := (allO 2).all fun r => (allO 2).all fun s => (List.range 2).all fun a => (List.range 2).all fun b => a == b || (!(prefB r a b == prefB s a b) || r == s)
set_option maxRecDepth 100000 in
theorem chk_same : chkSame = true := by decide +kernel
set_option maxRecDepth 100000 in
theorem two_same {r s : List Int} (hr : rkOk (2 : Nat) r = true) (hs : rkOk (2 : Nat) s = true) {a b : Nat} (ha : a < 2) (hb : b < 2) (hne : a ≠ b) (h : prefB r a b = prefB s a b) : r = s := by
  have h1 := List.all_eq_true.1 (List.all_eq_true.1 (List.all_eq_true.1 (List.all_eq_true.1 chk_same r ((allO_mem (by omega) (by omega)).2 hr)) s ((allO_mem (by omega) (by omega)).2 hs)) a (List.mem_range.2 ha)) b (List.mem_range.2 hb)
  have h2 : (a == b) = false := beq_eq_false_iff_ne.2 hne
  rw [h2, h] at h1
  simpa using h1
set_option maxRecDepth 100000 in
/-- With two candidates nobody has anything better to hand in. -/
theorem two_none {vs : List Vt} (h0 : profOk (2 : Nat) vs = true) {rule : Int} (r1 : 1 ≤ rule) (r2 : rule ≤ 13) {k : Nat} {x : Vt} (hx : vs[k]? = some x) : betB rule (2 : Nat) vs k x.1 = false := by
  cases hb : betB rule (2 : Nat) vs k x.1
  · rfl
  exfalso
  have hS := prof_small h0
  obtain ⟨xk, x1, _⟩ := hS.2 x (List.mem_of_getElem? hx)
  unfold betB at hb
  rw [Int.toNat_natCast] at hb
  obtain ⟨hr, hw⟩ := repO_ok x.1 h0 r1 r2 hx
  generalize repO (gnW rule (2 : Nat) vs k) x.1 2 = ry at hb hr hw
  obtain ⟨r, y⟩ := ry
  simp only at hb hr hw
  obtain ⟨w, hw2, ew⟩ := winB_some h0 r1 r2
  obtain ⟨y', hy2, ey⟩ := gnW_lt h0 r1 r2 hx hr
  have eyy : y = y' := by rw [← hw, ey]
  rw [ew, eyy] at hb
  have hne : y' ≠ w := fun e => by rw [e, pref_irr] at hb; cases hb
  have hgd : vs.getD k ([], 0) = x := by simp [List.getD, hx]
  have ewin : winB rule (2 : Nat) (vs.set k (r, x.2)) = y' := by
    rw [← ey]
    unfold gnW
    rw [hgd]
  have h0' := set_ok h0 hx hr
  have e1 := sumV_set (p := fun r => prefB r y' w) (r, x.2) hx
  have e2 := sumV_set (p := fun r => prefB r w y') (r, x.2) hx
  have t1 := pref_tot xk hw2 hy2 (fun e => hne e.symm)
  rw [hb] at t1
  have t1' : prefB x.1 w y' = false := t1
  cases hq : prefB r y' w
  · have t2 := pref_tot hr hw2 hy2 (fun e => hne e.symm)
    rw [hq] at t2
    have t2' : prefB r w y' = true := t2
    simp only [hb, hq, t1', t2', if_true] at e1 e2
    by_cases hc : pairV vs w y' < pairV vs y' w
    · have := two_strict h0 hy2 hw2 hne hc r1 r2
      omega
    · have : winB rule (2 : Nat) (vs.set k (r, x.2)) = w := two_strict h0' hw2 hy2 (fun e => hne e.symm) (by
        unfold pairV at hc ⊢
        rw [e1, e2]
        simp
        omega) r1 r2
      omega
  · have t2 := pref_tot hr hw2 hy2 (fun e => hne e.symm)
    rw [hq] at t2
    have t2' : prefB r w y' = false := t2
    simp only [hb, hq, t1', t2', if_true] at e1 e2
    rcases Int.lt_trichotomy (pairV vs w y') (pairV vs y' w) with hc | hc | hc
    · have := two_strict h0 hy2 hw2 hne hc r1 r2
      omega
    · -- the same ballot
      have hrx : r = x.1 := two_same hr xk hy2 hw2 hne (by rw [hq, hb])
      rw [hrx] at ey
      rw [gnW_self hx] at ey
      omega
    · have : winB rule (2 : Nat) (vs.set k (r, x.2)) = w := two_strict h0' hw2 hy2 (fun e => hne e.symm) (by
        unfold pairV at hc ⊢
        rw [e1, e2]
        simp
        omega) r1 r2
      omega

set_option maxRecDepth 100000 in
theorem RdV.take {w : World} {a : Option Addr} {vs : List Vt} (h : RdV w a vs) (k : Nat) : RdV w a (vs.take k) := fun hne => by
  obtain ⟨b, off, ha, hj⟩ := h (fun e => hne (by rw [e]; simp))
  refine ⟨b, off, ha, fun j e he => ?_⟩
  rw [List.getElem?_take] at he
  split at he
  · exact hj j e he
  · cases he
set_option maxRecDepth 100000 in
theorem RdV.drop {w : World} {b off n : Nat} {vs : List Vt} (h : RdV w (some ⟨b, off, none⟩) vs) (k c : Nat) (hc : vs.length ≤ c) (hn : n = off + k * 2) : RdV w (if c = k then some ⟨b, off, none⟩ else some ⟨b, n, none⟩) (vs.drop k) := fun hne => by
  have hk : k < vs.length := by
    rcases Nat.lt_or_ge k vs.length with h | h
    · exact h
    · exact absurd (List.drop_eq_nil_of_le h) hne
  obtain ⟨b', off', e, hc'⟩ := h (fun e => by rw [e] at hk; simp at hk)
  injection e with e
  injection e with e1 e2
  subst e1 e2
  rw [if_neg (by omega)]
  subst hn
  refine ⟨b, off + k * 2, rfl, fun j x hx => ?_⟩
  rw [List.getElem?_drop] at hx
  have h1 := hc' (k + j) x hx
  rw [show off + (k + j) * 2 = off + k * 2 + j * 2 by omega] at h1
  exact h1
/-- The rankings of these votes are read where they lie. -/
def ReadE (w : World) (es : List (RowE × Int)) : Prop := ∀ e ∈ es, e.1.n = e.1.xs.length ∧ e.1.n ≤ e.1.c ∧ RdI w e.1.a e.1.xs
set_option maxRecDepth 100000 in
theorem ReadE.nil (w : World) : ReadE w [] := fun e he => by cases he
set_option maxRecDepth 100000 in
theorem ReadE.ext {w w' : World} {es : List (RowE × Int)} (h : ReadE w es) (hw : Ext w w') : ReadE w' es := fun e he => ⟨(h e he).1, (h e he).2.1, (h e he).2.2.ext hw⟩
set_option maxRecDepth 100000 in
theorem ReadE.app {w : World} {es fs : List (RowE × Int)} (h : ReadE w es) (h2 : ReadE w fs) : ReadE w (es ++ fs) := fun e he => by
  rcases List.mem_append.1 he with he | he
  · exact h e he
  · exact h2 e he
set_option maxRecDepth 100000 in
theorem ents_of {w : World} : ∀ (vs : List Vt) (b off : Nat), (∀ (j : Nat) (x : Vt), vs[j]? = some x → ∃ a' c', w.cell? ⟨b, off + j * 2, none⟩ = some (.slice a' x.1.length c') ∧ w.cell? ⟨b, off + j * 2 + 1, none⟩ = some (.int .i64 x.2) ∧ x.1.length ≤ c' ∧ RdI w a' x.1) →
    ∃ es : List (RowE × Int), vtsOf es = vs ∧ ReadE w es ∧ ∀ (j : Nat) (u : Value), (vtL es)[j]? = some u → w.cell? ⟨b, off + j, none⟩ = some u
  | [], b, off, _ => ⟨[], rfl, ReadE.nil w, fun j u h => by simp [vtL] at h⟩
  | x :: xs, b, off, h => by
    obtain ⟨a', c', h0, h1, h2, h3⟩ := h 0 x rfl
    obtain ⟨es, e1, e2, e3⟩ := ents_of xs b (off + 2) (fun j y hy => by
      have := h (j + 1) y (by simpa using hy)
      rw [show off + 2 + j * 2 = off + (j + 1) * 2 by omega]; exact this)
    refine ⟨(⟨a', x.1.length, c', x.1⟩, x.2) :: es, by rw [← e1]; rfl, fun e he => ?_, fun j u hj => ?_⟩
    · rcases List.mem_cons.1 he with rfl | he
      · exact ⟨rfl, h2, h3⟩
      · exact e2 e he
    · have e : vtL ((⟨a', x.1.length, c', x.1⟩, x.2) :: es) = .slice a' x.1.length c' :: .int .i64 x.2 :: vtL es := rfl
      rw [e] at hj
      match j, hj with
      | 0, hj => simp at hj; subst hj; simpa using h0
      | 1, hj => simp at hj; subst hj; simpa using h1
      | j + 2, hj =>
        have h4 := e3 j u (by simpa using hj)
        rw [show off + (j + 2) = off + 2 + j by omega]; exact h4
/-- A part of a list of votes as it lies in memory. -/
def LayV (w : World) (a : Option Addr) (es : List (RowE × Int)) : Prop := es ≠ [] → ∃ b off, a = some ⟨b, off, none⟩ ∧ ∀ (j : Nat) (u : Value), (vtL es)[j]? = some u → w.cell? ⟨b, off + j, none⟩ = some u
set_option maxRecDepth 100000 in
theorem LayV.ext {w w' : World} {a : Option Addr} {es : List (RowE × Int)} (h : LayV w a es) (hw : Ext w w') : LayV w' a es := fun hne => by
  obtain ⟨b, off, ha, hc⟩ := h hne
  exact ⟨b, off, ha, fun j u hj => hw.keep (hc j u hj)⟩
set_option maxRecDepth 100000 in
theorem RdV.ents {w : World} {a : Option Addr} {vs : List Vt} (h : RdV w a vs) : ∃ es : List (RowE × Int), vtsOf es = vs ∧ es.length = vs.length ∧ ReadE w es ∧ LayV w a es := by
  by_cases hne : vs = []
  · subst hne
    exact ⟨[], rfl, rfl, ReadE.nil w, fun h => absurd rfl h⟩
  · obtain ⟨b, off, rfl, hc⟩ := h hne
    obtain ⟨es, e1, e2, e3⟩ := ents_of vs b off hc
    exact ⟨es, e1, by rw [← e1]; unfold vtsOf; rw [List.length_map], e2, fun _ => ⟨b, off, rfl, e3⟩⟩
set_option maxRecDepth 100000 in
theorem RowsV.rdR {w : World} {B : Nat} {a : Option Addr} {n c : Nat} {es : List (RowE × Int)} (h : RowsV w B (.slice a n c) es) (hf : ReadE w es) : RdV w a (vtsOf es) := fun hne => by
  have hne' : es ≠ [] := fun e => hne (by rw [e]; rfl)
  rcases h.val with ⟨_, he⟩ | ⟨g, c', hv, hc, hg, hB⟩
  · exact absurd he hne'
  · injection hv with h1 h2 h3
    subst h1
    refine ⟨g, 0, rfl, fun j x hx => ?_⟩
    unfold vtsOf at hx
    rw [List.getElem?_map, Option.map_eq_some_iff] at hx
    obtain ⟨e, he, rfl⟩ := hx
    have hl := lt_of_at he
    obtain ⟨c0, c1⟩ := vtL_at he
    obtain ⟨r1, r2, r3⟩ := hf e (List.mem_of_getElem? he)
    refine ⟨e.1.a, e.1.c, ?_, ?_, by rw [← r1]; exact r2, r3⟩
    · rw [Nat.zero_add, hB.cell _ (by omega), ← r1]
      simp [List.getD, c0, rowV]
    · rw [Nat.zero_add, hB.cell _ (by omega)]
      simp [List.getD, c1]
set_option maxRecDepth 100000 in
theorem RowsV.lenEq {w : World} {B : Nat} {a : Option Addr} {n c : Nat} {es : List (RowE × Int)} (h : RowsV w B (.slice a n c) es) : n = es.length ∧ n ≤ c := by
  rcases h.val with ⟨hv, he⟩ | ⟨g, c', hv, hc, _, _⟩
  · injection hv with h1 h2 h3
    subst h2
    subst he
    exact ⟨rfl, by omega⟩
  · injection hv with h1 h2 h3
    exact ⟨h2, by omega⟩
set_option maxRecDepth 100000 in
theorem vtL_app (es fs : List (RowE × Int)) : vtL (es ++ fs) = vtL es ++ vtL fs := by simp [vtL]
set_option maxRecDepth 100000 in
theorem vtL_one (es : List (RowE × Int)) : ∀ u ∈ vtL es, u.oneCell' = true := by
  intro u hu
  unfold vtL at hu
  rw [List.mem_flatMap] at hu
  obtain ⟨e, _, he⟩ := hu
  simp at he
  rcases he with rfl | rfl <;> rfl
set_option maxRecDepth 100000 in
/-- A list of votes appended to a list of the call's own. -/
theorem wpList_appVs {ops : Array Oper} {rest : List Oper} {o : Oper} {a : Act} {Q : Exit → Act → World → Prop} (B : Nat) (w3 : World) (hgd : o.guard = none) (s x : Operand)
    (ho : o.op = .call { callee := .builtin .append, args := #[s, x], argTypes := #[24, 24] }) (v : Value) (es ys : List (RowE × Int)) (hs : a.eval s = v) (hown : RowsV w3 B v es) (hB : B ≤ w3.heap.size)
    (ax : Option Addr) (n c : Nat) (hn : n = ys.length) (hx : a.eval x = .slice ax n c) (hR : LayV w3 ax ys) (hlen : es.length + ys.length ≤ 100000)
    (h : ∀ v' w', RowsV w' B v' (es ++ ys) → w3.grownBy w' v.ownBlock → Fresh w3 v v' → wpList Tryz.prog ops Q rest (a.put o.dst v') w') : wpList Tryz.prog ops Q (o :: rest) a w3 := by
  obtain ⟨i0, hi, hz0, hz1, hz2⟩ := info_parts info_v
  subst hn
  obtain ⟨v', w', hr, h1, h2, h3⟩ := run_append_any (P := Tryz.prog) w3 B 24 o.type 30 i0 (.agg #[.slice none 0 0, .int .i64 0]) 2 32 Tryz.underlying24 hi hz0 hz1 hz2 rfl (by decide) v es.length _ hown ax ys.length c (vtL ys) (vtL_len ys)
    (fun hne => by
      obtain ⟨b, off, rfl, hc⟩ := hR (fun e => hne (by rw [e]; rfl))
      refine ⟨_, rfl, fun j u hj => ?_⟩
      have := hc j u hj
      by_cases hj0 : j = 0
      · subst hj0
        simpa [Addr.add] using this
      · simpa [Addr.add, hj0] using this)
    (vtL_one ys) (by unfold maxLen; omega) (by omega) hB
  refine wpList_plain hgd fun K hK => ?_
  unfold Oper.wp execOp
  simp only [ho, resolve, invoke, builtin, Sem.run_bind, Sem.run_pure, Result.andThen_ok, List.map_toArray, List.map_cons, List.map_nil, hs, hx, hr]
  refine hK _ _ (h v' w' ?_ h2 h3)
  unfold RowsV
  rw [vtL_app, List.length_append]
  exact h1
set_option maxRecDepth 100000 in
theorem RowsV.own {w : World} {B g n c : Nat} {es : List (RowE × Int)} (h : RowsV w B (.slice (some ⟨g, 0, none⟩) n c) es) : BlkF w g (es.length * 2) (fun o => (vtL es).getD o undef) := by
  rcases h.val with ⟨hv, _⟩ | ⟨g', c', hv, _, _, hB⟩
  · cases hv
  · injection hv with h1 h2 h3
    injection h1 with h1
    injection h1 with h1
    subst h1
    exact hB
/-- Votes that are read, all in blocks from B on. -/
def FrV (w : World) (B : Nat) (a : Option Addr) (vs : List Vt) : Prop :=
  vs ≠ [] → ∃ b off, a = some ⟨b, off, none⟩ ∧ B ≤ b ∧ ∀ (j : Nat) (x : Vt), vs[j]? = some x → ∃ a' c', w.cell? ⟨b, off + j * 2, none⟩ = some (.slice a' x.1.length c') ∧
    w.cell? ⟨b, off + j * 2 + 1, none⟩ = some (.int .i64 x.2) ∧ x.1.length ≤ c' ∧ RdI w a' x.1 ∧ (x.1 ≠ [] → ∀ b2 off2, a' = some ⟨b2, off2, none⟩ → B ≤ b2)
set_option maxRecDepth 100000 in
theorem FrV.rd {w : World} {B : Nat} {a : Option Addr} {vs : List Vt} (h : FrV w B a vs) : RdV w a vs := fun hne => by
  obtain ⟨b, off, ha, _, hc⟩ := h hne
  refine ⟨b, off, ha, fun j x hx => ?_⟩
  obtain ⟨a', c', h0, h1, h2, h3, _⟩ := hc j x hx
  exact ⟨a', c', h0, h1, h2, h3⟩
set_option maxRecDepth 100000 in
theorem FrV.ext {w w' : World} {B : Nat} {a : Option Addr} {vs : List Vt} (h : FrV w B a vs) (hw : Ext w w') : FrV w' B a vs := fun hne => by
  obtain ⟨b, off, ha, hb, hc⟩ := h hne
  refine ⟨b, off, ha, hb, fun j x hx => ?_⟩
  obtain ⟨a', c', h0, h1, h2, h3, h4⟩ := hc j x hx
  exact ⟨a', c', hw.keep h0, hw.keep h1, h2, h3.ext hw, h4⟩
set_option maxRecDepth 100000 in
theorem FrV.only {w w' : World} {B g : Nat} {a : Option Addr} {vs : List Vt} (h : FrV w B a vs) (hg : g < B) (hw : Only g w w') : FrV w' B a vs := fun hne => by
  obtain ⟨b, off, ha, hb, hc⟩ := h hne
  refine ⟨b, off, ha, hb, fun j x hx => ?_⟩
  obtain ⟨a', c', h0, h1, h2, h3, h4⟩ := hc j x hx
  refine ⟨a', c', hw.keep (by dsimp only; omega) h0, hw.keep (by dsimp only; omega) h1, h2, ?_, h4⟩
  by_cases hx0 : x.1 = []
  · rw [hx0]; exact RdI.nil _ _
  · exact hw.rdI h3 (fun b2 off2 e => by have := h4 hx0 b2 off2 e; omega)
set_option maxRecDepth 100000 in
/-- One ranking is replaced. -/
theorem LstV.setRd {w : World} {B g n c : Nat} {es : List (RowE × Int)} (h : LstV w B (.slice (some ⟨g, 0, none⟩) n c) es) {k : Nat} {e : RowE × Int} (hk : es[k]? = some e) {au : Option Addr} {nu cu : Nat} {us : List Int} (hu : RdI w au us) (hn : nu = us.length) (hc : nu ≤ cu) (hug : us ≠ [] → ∀ b off, au = some ⟨b, off, none⟩ → B ≤ b ∧ b ≠ g) :
    FrV (w.setCell ⟨g, k * 2, none⟩ (.slice au nu cu)) B (some ⟨g, 0, none⟩) ((vtsOf es).set k (us, e.2)) ∧ Only g w (w.setCell ⟨g, k * 2, none⟩ (.slice au nu cu)) := by
  have hB := h.1.own
  have hBg : B ≤ g := (World.ownsRow.lt h.1 g rfl).1
  have hkl := lt_of_at hk
  have hS := hB.set (k * 2) (by omega) (.slice au nu cu)
  have hO : Only g w (w.setCell ⟨g, k * 2, none⟩ (.slice au nu cu)) := (Only.refl g w).setCell _ _
  generalize w.setCell ⟨g, k * 2, none⟩ (.slice au nu cu) = w' at hS hO
  refine ⟨fun _ => ⟨g, 0, rfl, hBg, fun j x hx => ?_⟩, hO⟩
  rw [List.getElem?_set] at hx
  by_cases hjk : k = j
  · subst hjk
    have hl : k < (vtsOf es).length := by unfold vtsOf; rw [List.length_map]; exact hkl
    rw [if_pos rfl, if_pos hl] at hx
    injection hx with hx
    subst hx
    obtain ⟨_, c1⟩ := vtL_at hk
    refine ⟨au, cu, ?_, ?_, by dsimp only; omega, ?_, fun hne b2 off2 e => (hug hne b2 off2 e).1⟩
    · rw [Nat.zero_add, hS.cell _ (by omega)]; simp [hn]
    · rw [Nat.zero_add, hS.cell _ (by omega)]
      simp [List.getD, c1]
    · by_cases hne : us = []
      · dsimp only; rw [hne]; exact RdI.nil _ _
      · exact hO.rdI hu (fun b2 off2 e => (hug hne b2 off2 e).2)
  · rw [if_neg hjk] at hx
    unfold vtsOf at hx
    rw [List.getElem?_map, Option.map_eq_some_iff] at hx
    obtain ⟨f, hf, rfl⟩ := hx
    have hl := lt_of_at hf
    obtain ⟨c0, c1⟩ := vtL_at hf
    have hO2 := h.2.1 f.1 (List.mem_map_of_mem (List.mem_of_getElem? hf))
    obtain ⟨a2, c2, hv2, hc2, _, hR2, hb2⟩ := hO2.val
    have hne3 := rowsV_ne h.1 h.2 f.1 (List.mem_map_of_mem (List.mem_of_getElem? hf))
    have hv2' := hv2
    unfold rowV at hv2
    injection hv2 with e1 e2 e3
    refine ⟨f.1.a, f.1.c, ?_, ?_, by rw [e3]; exact hc2, ?_, fun hne b2 off2 e => by
      obtain ⟨g2, ha2, hb3, _⟩ := hb2 hne
      rw [e1, ha2] at e
      injection e with e
      injection e with e
      omega⟩
    · rw [Nat.zero_add, hS.cell _ (by omega), ← e2]
      rw [if_neg (by omega)]
      simp [List.getD, c0, rowV]
    · rw [Nat.zero_add, hS.cell _ (by omega)]
      rw [if_neg (by omega)]
      simp [List.getD, c1]
    · rw [e1]
      by_cases hne : f.1.xs = []
      · rw [hne]; exact RdI.nil _ _
      · obtain ⟨g2, ha2, _, _⟩ := hb2 hne
        refine hO.rdI hR2 (fun b off hab hbg => ?_)
        rw [ha2] at hab
        injection hab with hab
        injection hab with hab
        rw [hv2', ha2] at hne3
        subst hbg
        subst hab
        rcases hne3 with h | h
        · cases h
        · exact h rfl
set_option maxRecDepth 100000 in
/-- The list of votes is a block if there is a vote. -/
theorem LstV.at0 {w : World} {B : Nat} {v : Value} {es : List (RowE × Int)} (h : LstV w B v es) (hne : es ≠ []) : ∃ g c, v = .slice (some ⟨g, 0, none⟩) es.length c ∧ es.length ≤ c ∧ B ≤ g ∧ g < w.heap.size := by
  rcases h.1.val with ⟨_, he⟩ | ⟨g, c, hv, hc, hg, hB⟩
  · exact absurd he hne
  · exact ⟨g, c, hv, hc, hg, hB.lt⟩
set_option maxRecDepth 100000 in
theorem LstV.rdV {w : World} {B : Nat} {a : Option Addr} {n c : Nat} {es : List (RowE × Int)} (h : LstV w B (.slice a n c) es) : RdV w a (vtsOf es) := h.1.rd (B' := B) h.2
set_option maxRecDepth 100000 in
theorem LstV.form {w : World} {B : Nat} {v : Value} {es : List (RowE × Int)} (h : LstV w B v es) : ∃ a c, v = .slice a es.length c ∧ es.length ≤ c := by
  rcases h.1.val with ⟨hv, he⟩ | ⟨g, c, hv, hc, _, _⟩
  · subst he; exact ⟨none, 0, hv, Nat.le_refl _⟩
  · exact ⟨_, c, hv, hc⟩
set_option maxRecDepth 100000 in
theorem vtsOf_len {es : List (RowE × Int)} {vs : List Vt} (h : vtsOf es = vs) : es.length = vs.length := by rw [← h]; unfold vtsOf; rw [List.length_map]
set_option maxRecDepth 100000 in
theorem vtsOf_at {es : List (RowE × Int)} {vs : List Vt} (h : vtsOf es = vs) {k : Nat} {x : Vt} (hx : vs[k]? = some x) : ∃ e, es[k]? = some e ∧ e.1.xs = x.1 ∧ e.2 = x.2 := by
  rw [← h] at hx
  unfold vtsOf at hx
  rw [List.getElem?_map, Option.map_eq_some_iff] at hx
  obtain ⟨e, he, rfl⟩ := hx
  exact ⟨e, he, rfl, rfl⟩

/-- Block g holds s cells, all of which may be written. -/
def Shp (g : Nat) (e : TypeId) (s : Nat) (w : World) : Prop := ∃ cur, w.heap[g]? = some (.cells cur e (0, 0)) ∧ cur.size = s
set_option maxRecDepth 100000 in
theorem Shp.setCell {g : Nat} {e : TypeId} {s : Nat} {w : World} (h : Shp g e s w) (a : Addr) (v : Value) : Shp g e s (w.setCell a v) := by
  obtain ⟨cur, hh, hs⟩ := h
  unfold Shp
  simp only [World.setCell, Array.getElem?_modify]
  by_cases hb : a.block = g
  · rw [if_pos hb, hh]
    refine ⟨_, rfl, ?_⟩
    split
    · exact hs
    · rw [Array.size_setIfInBounds]; exact hs
  · rw [if_neg hb]; exact ⟨cur, hh, hs⟩
set_option maxRecDepth 100000 in
theorem Shp.setCells {g g' : Nat} {e : TypeId} {s : Nat} : ∀ (cs : List Value) (w : World) (o : Nat), Shp g e s w → Shp g e s (w.setCells g' o cs)
  | [], _, _, h => h
  | _ :: cs, _, _, h => Shp.setCells cs _ _ (h.setCell _ _)
set_option maxRecDepth 100000 in
theorem Shp.ext {g : Nat} {e : TypeId} {s : Nat} {w w' : World} (h : Shp g e s w) (hw : Ext w w') : Shp g e s w' := by
  obtain ⟨cur, hh, hs⟩ := h
  refine ⟨cur, ?_, hs⟩
  have hlt : g < w.heap.size := by
    rcases Nat.lt_or_ge g w.heap.size with hlt | hge
    · exact hlt
    · rw [Array.getElem?_eq_none hge] at hh; cases hh
  rw [Below.block hw g hlt]; exact hh
set_option maxRecDepth 100000 in
theorem OwnI.shp {w : World} {B g n c : Nat} {xs : List Int} (h : OwnI w B (.slice (some ⟨g, 0, none⟩) n c) xs) : Shp g 3 c w ∧ n = xs.length ∧ n ≤ c ∧ c ≤ maxLen ∧ B ≤ g ∧ BlkF w g n (fun j => .int .i64 (xs.getD j 0)) := by
  have h0 := h
  obtain ⟨h1, h2⟩ := h
  rcases h2 with ⟨e, _⟩ | ⟨g', cap, cur, e, hg, hh, hc, hm, hs, ht⟩
  · cases e
  · injection e with e1 e2 e3
    injection e1 with e1
    injection e1 with e1
    subst e1
    subst e2
    subst e3
    refine ⟨⟨cur, hh, by omega⟩, rfl, hc, hm, hg, ?_⟩
    by_cases hne : xs = []
    · subst hne
      have hlt : g < w.heap.size := by
        rcases Nat.lt_or_ge g w.heap.size with hlt | hge
        · exact hlt
        · rw [Array.getElem?_eq_none hge] at hh; cases hh
      exact ⟨hlt, fun o => by simp [World.frozen?, hh], fun o ho => by simp at ho⟩
    · obtain ⟨a, c', hv, _, _, _, hb⟩ := h0.val
      injection hv with v1 v2 v3
      obtain ⟨g2, hg2, _, hB⟩ := hb hne
      rw [← v1] at hg2
      injection hg2 with hg2
      injection hg2 with hg2
      subst hg2
      exact hB
set_option maxRecDepth 100000 in
/-- A block in which a list stands is a list of the call's own. -/
theorem Shp.own {w : World} {B g n c : Nat} {f : Nat → Value} {xs : List Int} (hs : Shp g 3 c w) (hB : BlkF w g n f) (hn : xs.length = n) (hf : ∀ (j : Nat) (x : Int), xs[j]? = some x → f j = .int .i64 x) (hg : B ≤ g) (hnc : n ≤ c) (hc : c ≤ maxLen) : OwnI w B (.slice (some ⟨g, 0, none⟩) n c) xs := by
  obtain ⟨cur, hh, hcs⟩ := hs
  subst hn
  refine ⟨by simp, .inr ⟨g, c, cur, rfl, hg, hh, hnc, hc, by omega, ?_⟩⟩
  refine List.ext_getElem? (fun j => ?_)
  rw [List.getElem?_take]
  by_cases hj : j < xs.length
  · rw [if_pos (by omega)]
    obtain ⟨x, hx⟩ := at_of_lt hj
    have h1 := hB.cell j hj
    rw [hf j x hx] at h1
    simp only [World.cell?, hh] at h1
    rw [List.getElem?_map, hx]
    simpa using h1
  · rw [if_neg (by omega), List.getElem?_eq_none (by rw [List.length_map]; omega)]

set_option maxRecDepth 100000 in
set_option maxHeartbeats 1000000 in
theorem cln_impl (w : World) (a : Option Addr) (c : Nat) (xs : List Int) (hR : RdI w a xs) (hl : xs.length ≤ 1000000) :
    Calls Tryz.prog 29 #[.slice a xs.length c] w fun e w' => ∃ v, e = .returned v ∧ OwnI w' w.heap.size v xs ∧ Ext w w' := by
  have hnil : ∀ (W : World) (a : Addr) (n c : Nat), (binOp .eql 28 (.slice (some a) n c) (.slice none 0 0)).run Tryz.prog W = .ok (.bool false) W := fun W a n c => Lib.run_eql_slice_some_nil W a n c Tryz.underlying28
  have hnn : ∀ (W : World) (n c : Nat), (binOp .eql 28 (.slice none n c) (.slice none 0 0)).run Tryz.prog W = .ok (.bool true) W := fun W n c => Lib.run_eql_slice_nil_nil W n c Tryz.underlying28
  cases a with
  | none =>
    have hx : xs = [] := by
      by_cases h : xs = []
      · exact h
      · obtain ⟨_, _, h, _⟩ := hR h
        cases h
    subst hx
    go_enter Tryz.func29, Tryz.ntmps29
    go_wp2
    go_ret
    exact ⟨_, rfl, OwnI.nil _ _, Ext.refl _⟩
  | some a =>
    have hO := OwnI.made0 w
    have hE := Ext.new w (.cells #[] 3)
    go_enter Tryz.func29, Tryz.ntmps29
    go_wp2_with (at_builtin; go_loud (refine wpList_appG w.heap.size _ rfl _ _ rfl _ [] xs rfl (by exact hO) hE.size (some a) _ c rfl rfl (hR.ext hE) (by simp; omega) ?_); intro v1 w3 hO3 hg3 _)
    go_ret
    refine ⟨_, rfl, hO3, Ext.grown hE hg3 (fun k hk => ownsRow_block hO k hk)⟩

set_option maxRecDepth 100000 in
theorem place_some {xs : List Int} {x : Int} (h : 0 ≤ placeI xs x) : ∃ i : Nat, placeI xs x = i ∧ i < xs.length ∧ xs[i]? = some x := by
  unfold placeI findI at h ⊢
  split at h
  · rename_i k hk
    rw [List.findIdx?_eq_some_iff_getElem] at hk
    obtain ⟨h1, h2, _⟩ := hk
    have h3 : x = xs[k] := by simpa using h2
    exact ⟨k, rfl, h1, by rw [List.getElem?_eq_getElem h1, ← h3]⟩
  · omega
set_option maxRecDepth 100000 in
theorem OwnI.some {w : World} {B : Nat} {v : Value} {xs : List Int} (h : OwnI w B v xs) (hne : 0 < xs.length) : ∃ g c, v = .slice (some ⟨g, 0, none⟩) xs.length c := by
  obtain ⟨a, c, hv, _, _, _, hb⟩ := h.val
  obtain ⟨g, hg, _⟩ := hb (fun e => by rw [e] at hne; simp at hne)
  exact ⟨g, c, by rw [hv, hg]⟩

set_option maxRecDepth 100000 in
/-- A list that is read appended to an empty one of the call's own: what was there stays. -/
theorem run_cpy (ws : World) (B g : Nat) (ty : TypeId) (hO : OwnI ws B (.slice (some ⟨g, 0, none⟩) 0 0) []) (hB : B ≤ ws.heap.size) (ax : Option Addr) (ys : List Int) (c : Nat) (hR : RdI ws ax ys) (hl : ys.length ≤ 100000) :
    ∃ v' w', (Builtin.append_ #[28, 28] ty #[.slice (some ⟨g, 0, none⟩) 0 0, .slice ax ys.length c]).run Tryz.prog ws = .ok v' w' ∧ OwnI w' B v' ys ∧ Ext ws w' := by
  obtain ⟨i0, hi, hz0, hz1, hz2⟩ := info_parts info_int
  by_cases hne : ys = []
  · subst hne
    exact ⟨_, ws, run_append_none ws B 28 ty 3 i0 1 Tryz.underlying28 hi _ 0 [] hO ax c, hO, Ext.refl _⟩
  · obtain ⟨b, off, rfl, hc⟩ := hR hne
    have hp : 0 < ys.length := List.length_pos_iff.2 hne
    have hcell : ∀ (j : Nat) u, (ys.map (Value.int .i64))[j]? = some u → ws.cell? ((⟨b, off, none⟩ : Addr).add j) = some u := fun j u hj => by
      rw [List.getElem?_map, Option.map_eq_some_iff] at hj
      obtain ⟨y, hy, rfl⟩ := hj
      have := hc j y hy
      by_cases hj0 : j = 0
      · subst hj0
        simpa [Addr.add] using this
      · simpa [Addr.add, hj0] using this
    obtain ⟨v', w', hr, h1, h2, h3⟩ := run_append_any (P := Tryz.prog) ws B 28 ty 3 i0 (.int .i64 0) 1 8 Tryz.underlying28 hi hz0 hz1 hz2 rfl (by decide) _ _ _ hO (some ⟨b, off, none⟩) ys.length c (ys.map (Value.int .i64)) (by simp)
      (fun _ => ⟨_, rfl, hcell⟩) (fun u hu => by
        obtain ⟨y, _, rfl⟩ := List.mem_map.1 hu
        rfl) (by unfold maxLen; simp; omega) (by simp; omega) hB
    have hr2 := run_append_grow (P := Tryz.prog) ws 28 ty 3 i0 (.int .i64 0) Tryz.underlying28 hi hz0 ⟨g, 0, none⟩ 0 0 [] (by simp) (fun j v h => by simp at h) ⟨b, off, none⟩ ys.length c (ys.map (Value.int .i64)) (by rw [hz1]; simp) hcell (by omega) (by simp; omega)
      (growslice_fits (by omega) (by rw [hz2]; omega))
    have hr' := hr
    rw [hr] at hr2
    injection hr2 with e1 e2
    refine ⟨v', w', hr', ?_, ?_⟩
    · have h1' : w'.ownsRow B 3 1 v' (0 + ys.length) ([] ++ ys.map (Value.int .i64)) := h1
      rw [Nat.zero_add, List.nil_append] at h1'
      exact h1'
    · rw [e2]
      exact ((Ext.refl ws).drew).alloc _
set_option maxRecDepth 100000 in
theorem oper_cpyI {o : Oper} {a : Act} {K : World → Act → Prop} (wq ws : World) (hws : Ext (wq.alloc (.cells #[] 3)) ws) (s x : Operand)
    (ho : o.op = .call { callee := .builtin .append, args := #[s, x], argTypes := #[28, 28] }) (ys : List Int) (ax : Option Addr) (n c : Nat) (hn : n = ys.length)
    (hs : a.eval s = .slice (some ⟨wq.heap.size, 0, none⟩) 0 0) (hx : a.eval x = .slice ax n c) (hR : RdI ws ax ys) (hl : ys.length ≤ 100000)
    (h : ∀ v' w', OwnI w' wq.heap.size v' ys → Ext ws w' → Ext ws w' ∧ K w' (a.put o.dst v')) : o.wp Tryz.prog a ws (fun a' w' => Ext ws w' ∧ K w' a') NoExit := by
  subst hn
  have hsz := hws.size
  have hs2 : (wq.alloc (.cells #[] 3)).heap.size = wq.heap.size + 1 := by simp
  obtain ⟨v', w', hr, h1, h2⟩ := run_cpy ws wq.heap.size wq.heap.size o.type ((OwnI.made0 wq).ext hws) (by omega) ax ys c hR hl
  unfold Oper.wp execOp
  simp only [ho, resolve, invoke, builtin, Sem.run_bind, Sem.run_pure, Result.andThen_ok, List.map_toArray, List.map_cons, List.map_nil, hs, hx, hr]
  exact h v' w' h1 h2

open Go.RowKit

set_option maxRecDepth 100000 in
set_option maxHeartbeats 8000000 in
theorem clone_impl (w : World) (sz : Int) (a : Option Addr) (c : Nat) (vs : List Vt) (hR : RdV w a vs) (h0 : profOk sz vs = true) :
    Calls Tryz.prog 28 #[.agg #[.int .i64 sz, .slice a vs.length c]] w fun e w' => ∃ v es, e = .returned (.agg #[.int .i64 (sz), v]) ∧ LstV w' w.heap.size v es ∧ vtsOf es = vs.map (fun x => ((fun r => r) x.1, x.2)) ∧ Ext w w' := by
  have hvl := (prof_small h0).1
  have q0 := new0 w (.int .i64 sz) [.slice a vs.length c] 26
  have q1 := new1 w (.int .i64 sz) (.slice a vs.length c) [] 26
  obtain ⟨F, hF⟩ : ∃ F : List Int → List Int, F = (fun r => r) := ⟨_, rfl⟩
  rw [← hF]
  have hs0 : (w.alloc (.cells #[.int .i64 sz, .slice a vs.length c] 26)).heap.size = w.heap.size + 1 := by simp
  have hE1 := Ext.new w (.cells #[.int .i64 sz, .slice a vs.length c] 26)
  have p0 := BlkF.new (w.alloc (.cells #[.int .i64 sz, .slice a vs.length c] 26)) #[.int .i64 0, .slice none 0 0] 26
  have hE2 := Ext.new (w.alloc (.cells #[.int .i64 sz, .slice a vs.length c] 26)) (.cells #[.int .i64 0, .slice none 0 0] 26)
  have hs1 : ((w.alloc (.cells #[.int .i64 sz, .slice a vs.length c] 26)).alloc (.cells #[.int .i64 0, .slice none 0 0] 26)).heap.size = w.heap.size + 2 := by simp
  rw [hs0] at p0
  have HF : Hid (∀ (x : Vt) (a' : Option Addr) (c' : Nat) (w' : World), x ∈ vs → Ext w w' → RdI w' a' x.1 → x.1.length ≤ c' → Calls Tryz.prog 29 #[.slice a' x.1.length c'] w' fun e w'' => ∃ u, e = .returned u ∧ OwnI w'' w'.heap.size u (F x.1) ∧ Ext w' w'') := fun x a' c' w' hx hw' hRx hc' => by
    rw [hF]
    exact cln_impl w' a' c' x.1 hRx (by have := (rk_len ((prof_small h0).2 x hx).1).2; omega)
  clear hF
  go_enter Tryz.func28, Tryz.ntmps28
  go_wp2_with fail
  generalize w.alloc (.cells #[.int .i64 sz, .slice a vs.length c] 26) = wA at hE1 hE2 hs0 hs1 p0 q0 q1 ⊢
  have hw : Ext w (wA.alloc (.cells #[.int .i64 0, .slice none 0 0] 26)) := hE1.trans hE2
  generalize wA.alloc (.cells #[.int .i64 0, .slice none 0 0] 26) = wb at hE2 hs1 p0 hw ⊢
  have P1 := hide p0
  have hszw : w.heap.size + 1 < wb.heap.size := by omega
  clear p0
  have hB := (BlkF.new wb #[.int .i64 (sz), .slice none 0 0] 26).congr (f' := boxF (sz) (.slice none 0 0)) (fun o ho => by
    match o, ho with
    | 0, _ => rfl
    | 1, _ => rfl)
  have hE0 := Ext.new wb (.cells #[.int .i64 (sz), .slice none 0 0] 26)
  have hlt := hB.lt
  obtain ⟨g, hg⟩ : ∃ g : Nat, g = wb.heap.size := ⟨_, rfl⟩
  generalize wb.alloc (.cells #[.int .i64 (sz), .slice none 0 0] 26) = W0 at hB hE0 hlt ⊢
  obtain ⟨H, hH⟩ : ∃ H : Nat, H = W0.heap.size := ⟨_, rfl⟩
  rw [← hg] at hB hlt
  rw [← hH] at hlt
  first | rw [← hg] | rw [← hs1, ← hg]
  have hgw : w.heap.size ≤ g := by rw [hg]; exact hw.size
  have hHs : H ≤ W0.heap.size := by omega
  have hgb : wb.heap.size ≤ g := by omega
  have hg8 : w.heap.size + 1 < g := by omega
  have hB := hB.congr (f' := boxF (sz) (.slice none 0 0)) (fun _ _ => rfl)
  clear hH hg hszw hs1 hs0

  go_loopw [5, 12] (fun _ i wr => ∃ (k : Nat) (v : Value) (es : List (RowE × Int)), k ≤ vs.length ∧ i = .int .i64 k ∧ BlkF wr g 2 (boxF (sz) v) ∧ LstV wr H v es ∧ Hid (vtsOf es = (vs.take k).map (fun x => (F x.1, x.2))) ∧ H ≤ wr.heap.size ∧ Ext wb wr) (fun _ i _ => vs.length - (intOf i).toNat)
  case atStart => exact ⟨0, _, [], Nat.zero_le _, rfl, hB, LstV.nil _ _, rfl, hHs, hE0⟩
  case round =>
    clear hB hE0 hHs
    obtain ⟨k, v, es, hk, rfl, hB, hl, hmap, hHs, hwr⟩ := hrel
    have b0 := hB.cell 0 (by omega)
    have b1 := hB.cell 1 (by omega)
    have hb0 : boxF (sz) v 0 = .int .i64 (sz) := rfl
    have hb1 : boxF (sz) v 1 = v := rfl
    rw [hb0] at b0
    rw [hb1] at b1
    by_cases hkt : k < vs.length
    · obtain ⟨x, hx⟩ := at_of_lt hkt
      obtain ⟨b, off, a', c', rfl, c0, c1, hc', hRx⟩ := (hR.ext (hw.trans hwr)).at_ hx
      have hel : es.length ≤ 24 := by
        have h1 := congrArg List.length hmap.out
        unfold vtsOf at h1
        rw [List.length_map, List.length_map, List.length_take] at h1
        omega
      have HC := hide (fun w' (hw' : Ext wr w') => HF.out x a' c' w' (List.mem_of_getElem? hx) ((hw.trans hwr).trans hw') (hRx.ext hw') hc')
      have HN : Hid (∀ (u : RowE), u.xs = F x.1 → vtsOf (es ++ [(u, x.2)]) = (vs.take (k + 1)).map (fun x => (F x.1, x.2))) := fun u hu => by
        rw [take_at hx, List.map_append, ← hmap.out]
        simp [vtsOf, hu]
      have HL := hide hl
      have HB := hide hB
      clear hx hl hB hb0 hb1 hRx
      go_wp2
      refine wp_region_P [0,1,2,3,5,6,4,7,8,9,10,11] (by kernel_rfl) rfl (by kernel_rfl) ?_
      repeat' (refine wpP_stepQ rfl (fun K hK => ?_)
               go_simp
               try (rw [if_neg (by intro h; simp [undef] at h)])
               try split
               all_goals
                 first
                 | (refine hK _ ?_
                    clear hK K)
                 | (apply Exists.intro
                    refine ⟨fun wq hwq => ?_, hK _ ?_⟩
                    · have hcq := hwq.cellS
                      go_simp
                      first
                      | exact ⟨Ext.refl _, rfl⟩
                    clear hK K))
      refine wpP_stepS rfl (by kernel_rfl) (fun K hK wq hwq => ?_)
      go_simp
      refine (HC.out _ (by repeat (first | exact Ext.refl _ | assumption | refine Ext.alloc ?_ _ | refine Ext.drew ?_ | refine Ext.trans ?_ (by assumption)))).mono ?_
      rintro e w3 ⟨u, rfl, hu, hw3⟩
      refine ⟨hw3, hK _ _ ?_⟩
      clear hK K
      obtain ⟨a5, n5, c5, rfl⟩ := hu.form
      have hEy : Ext wr wq := (by repeat (first | exact Ext.refl _ | assumption | refine Ext.alloc ?_ _ | refine Ext.drew ?_ | refine Ext.trans ?_ (by assumption)))
      obtain ⟨wy, hwy⟩ : ∃ wy : World, wy = wq := ⟨_, rfl⟩
      subst hwy
      repeat' (refine wpP_stepQ rfl (fun K hK => ?_)
               go_simp
               try (rw [if_neg (by intro h; simp [undef] at h)])
               try split
               all_goals
                 first
                 | (refine hK _ ?_
                    clear hK K)
                 | (apply Exists.intro
                    refine ⟨fun wq hwq => ?_, hK _ ?_⟩
                    · have hcq := hwq.cellS
                      go_simp
                      first
                      | exact ⟨Ext.refl _, rfl⟩
                    clear hK K))
      refine wpP_stepS rfl (by kernel_rfl) (fun K hK wq hwq => ?_)
      go_simp
      refine ⟨(by repeat (first | exact Ext.refl _ | assumption | refine Ext.alloc ?_ _ | refine Ext.drew ?_ | refine Ext.trans ?_ (by assumption))), hK _ _ ?_⟩
      clear hK K
      refine wpP_stepC rfl (by kernel_rfl) (fun K hK' wa hwa => ?_)
      refine Eq.mpr (if_pos rfl) ?_
      have hEa : Ext wr wa := (by repeat (first | exact Ext.refl _ | assumption | refine Ext.alloc ?_ _ | refine Ext.drew ?_ | refine Ext.trans ?_ (by assumption)))
      have hLa := HL.out.ext hEa
      refine oper_appV H wa _ _ rfl v es (⟨a5, n5, c5, F x.1⟩, x.2) _ rfl hLa.1 (Nat.le_trans hHs hEa.size) rfl (hwa.keep (new0 wq _ _ _)) (hwa.keep (new1 wq _ _ _ _)) (by omega) ?_
      intro v' w4 hown4 hg4 hf4
      have hro : ∀ b, v.ownBlock = some b → H ≤ b := fun b hb => (World.ownsRow.lt HL.out.1 b hb).1
      have hB4 := (HB.out.ext hEa).grown hg4 (fun b hb => by have := hro b hb; omega)
      have hE4 : Ext wb w4 := Ext.grown (hwr.trans hEa) hg4 (fun b hb => by have := hro b hb; omega)
      have hL4 := HL.out.push (u := ⟨a5, n5, c5, F x.1⟩) (k := x.2) hHs hEy hu ((hwq.alloc _).trans hwa) hEa hown4 hg4
      have z1 := hB4.fr 1
      have d1 := hB4.cell 1 (by omega)
      rw [show boxF (sz) v 1 = v from rfl] at d1
      have hsz4 := Nat.le_trans hHs (Nat.le_trans hEa.size hg4.size)
      obtain ⟨av, nv, cv, rfl⟩ : ∃ av nv cv, v' = .slice av nv cv := by
        rcases hL4.1.val with ⟨h, _⟩ | ⟨g9, c9, h, _⟩
        · exact ⟨_, _, _, h⟩
        · exact ⟨_, _, _, h⟩
      have HL4 := hide hL4
      have HB4 := hide hB4
      clear hLa hro hown4 hg4 hf4 hL4 hB4 hEa hu hwa hwq hw3 b0 b1 c0 c1
      refine hK' _ _ ?_
      clear hK' K
      repeat' (refine wpP_stepQ rfl (fun K hK => ?_)
               go_simp
               try (rw [if_neg (by intro h; simp [undef] at h)])
               try split
               all_goals
                 first
                 | (refine hK _ ?_
                    clear hK K)
                 | (apply Exists.intro
                    refine ⟨fun wq hwq => ?_, hK _ ?_⟩
                    · have hcq := hwq.cellS
                      go_simp
                      first
                      | exact ⟨Ext.refl _, rfl⟩
                    clear hK K))
      refine wpP_stepL rfl (by kernel_rfl) (by kernel_rfl) (by kernel_rfl) (fun K hK wz hwz => ?_)
      have hcz := hwz.cellS
      have hfz := hwz.frozenS
      go_simp
      refine hK _ _ ?_
      clear hK K
      go_wp2
      have hOg : Only g wz (wz.setCell ⟨g, 1, none⟩ (.slice av nv cv)) := (Only.refl g wz).setCell 1 _
      refine ⟨⟨k + 1, .slice av nv cv, es ++ [(⟨a5, n5, c5, F x.1⟩, x.2)], by omega, by go_num, ?_, (HL4.out.ext hwz).only hlt hOg, HN.out _ rfl, ?_, Only.ext (hE4.trans hwz) hOg hgb⟩, by simp [intOf]; omega⟩
      · refine ((HB4.out.ext hwz).set 1 (by omega) _).congr (fun o ho => ?_)
        match o, ho with
        | 0, _ => rfl
        | 1, _ => rfl
      · exact Nat.le_trans hsz4 (Nat.le_trans hwz.size hOg.size)
    · have HM : Hid (vtsOf es = vs.map (fun x => (F x.1, x.2))) := hide (by rw [hmap.out, List.take_of_length_le (by omega)])
      have HL := hide hl
      have p1 := P1.out.ext hwr
      have r0 := p1.cell 0 (by simp)
      have r1 := p1.cell 1 (by simp)
      have z0 := p1.fr 0
      have z1 := p1.fr 1
      obtain ⟨av, nv, cv, rfl⟩ : ∃ av nv cv, v = .slice av nv cv := by
        rcases hl.1.val with ⟨h, _⟩ | ⟨g9, c9, h, _⟩
        · exact ⟨_, _, _, h⟩
        · exact ⟨_, _, _, h⟩
      have hww := hw.trans hwr
      have hp8 : w.heap.size + 1 < H := by omega
      clear hl hB p1 hmap hb0 hb1
      go_wp2
      have hO1 : Only (w.heap.size + 1) wr ((wr.setCell ⟨w.heap.size + 1, 0, none⟩ (.int .i64 (sz))).setCell ⟨w.heap.size + 1, 1, none⟩ (.slice av nv cv)) := ((Only.refl _ wr).setCell 0 _).setCell 1 _
      refine bodyPost_ret (v := .agg #[.int .i64 (sz), .slice av nv cv]) (by simp [results, Tryz.results28, go_sem, r0, r1]) rfl ⟨_, es, rfl, (HL.out.only hp8 hO1).base (by omega), HM.out, Only.ext hww hO1 (by omega)⟩

end Go.Proofs.YtfmeklgdaabooaaGreatDoor
