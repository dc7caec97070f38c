/- FnExactIsSettled, walked in the program. -/
import Derived.Test.YtblkbdfndbpndaaGreatSet
namespace Go.Proofs.YtblkbdfndbpndaaGreat
open Go.RowKit

set_option maxRecDepth 100000 in
theorem setO_no {rule sz sz2 : Int} {vs ts : List Vt} (h : ¬ (plyB rule sz vs = true ∧ profOk sz2 ts = true ∧ sz2 = sz ∧ (ts.length : Int) = vs.length)) : setO rule sz vs sz2 ts = false := by
  unfold setO
  rw [Bool.eq_false_iff]
  intro e
  simp only [Bool.and_eq_true, decide_eq_true_eq] at e
  exact h ⟨e.1, e.2.1, e.2.2.1, by omega⟩

set_option maxRecDepth 100000 in
theorem prof_rk {sz : Int} {ts : List Vt} (h : profOk sz ts = true) {k : Nat} {y : Vt} (hy : ts[k]? = some y) : rkOk sz y.1 = true := by
  unfold profOk at h
  simp only [Bool.and_eq_true, List.all_eq_true] at h
  have h2 := h.2.2 y (List.mem_of_getElem? hy)
  unfold vtOk at h2
  simp only [Bool.and_eq_true] at h2
  exact h2.1

set_option maxRecDepth 100000 in
set_option maxHeartbeats 8000000 in
theorem set_impl (w : World) (rule sz : Int) (a : Option Addr) (c : Nat) (vs : List Vt) (sz2 : Int) (a2 : Option Addr) (c2 : Nat) (ts : List Vt) (hR : RdV w a vs) (hT : RdV w a2 ts) :
    Calls Tryz.prog 43 #[.int .i64 rule, .agg #[.int .i64 sz, .slice a vs.length c], .agg #[.int .i64 sz2, .slice a2 ts.length c2]] w fun e w' => e = .returned (.bool (setO rule sz vs sz2 ts)) ∧ Ext w w' := by
  have q0 := new0 w (.int .i64 sz) [.slice a vs.length c] 29
  have q1 := new1 w (.int .i64 sz) (.slice a vs.length c) [] 29
  have p0 := new0 (w.alloc (.cells #[.int .i64 sz, .slice a vs.length c] 29)) (.int .i64 sz2) [.slice a2 ts.length c2] 29
  have p1 := new1 (w.alloc (.cells #[.int .i64 sz, .slice a vs.length c] 29)) (.int .i64 sz2) (.slice a2 ts.length c2) [] 29
  have hE1 := Ext.new (w.alloc (.cells #[.int .i64 sz, .slice a vs.length c] 29)) (.cells #[.int .i64 sz2, .slice a2 ts.length c2] 29)
  have q0 := hE1.keep q0
  have q1 := hE1.keep q1
  rw [show (w.alloc (.cells #[.int .i64 sz, .slice a vs.length c] 29)).heap.size = w.heap.size + 1 by simp] at p0 p1
  clear hE1
  have HP : Hid (∀ w', Ext w w' → Calls Tryz.prog 92 #[.int .i64 rule, .agg #[.int .i64 sz, .slice a vs.length c]] w' fun e w'' => e = .returned (.bool (plyB rule sz vs)) ∧ Ext w' w'') := fun w' hw' => ply_impl w' rule sz a c vs (hR.ext hw')
  have HO : Hid (∀ w', Ext w w' → Calls Tryz.prog 51 #[.agg #[.int .i64 sz2, .slice a2 ts.length c2]] w' fun e w'' => e = .returned (.bool (profOk sz2 ts)) ∧ Ext w' w'') := fun w' hw' => prof_impl w' sz2 a2 c2 ts (hT.ext hw')
  by_cases hall : plyB rule sz vs = true ∧ profOk sz2 ts = true ∧ sz2 = sz ∧ (ts.length : Int) = vs.length
  case neg =>
    have HF := hide (setO_no hall)
    cases hp : plyB rule sz vs
    · rw [hp] at HP
      clear hp hall
      go_enter Tryz.func43, Tryz.ntmps43
      go_wp2_with (first | (go_at_call 92; refine (HP.out _ (by repeat (first | exact Ext.refl _ | assumption | refine Ext.alloc ?_ _ | refine Ext.drew ?_ | refine Ext.trans ?_ (by assumption)))).mono ?_; rintro e w1 ⟨rfl, hw1⟩; have q0 := Ext.keep (w' := w1) (by repeat (first | exact Ext.refl _ | assumption | refine Ext.alloc ?_ _ | refine Ext.drew ?_ | refine Ext.trans ?_ (by assumption))) q0; have q1 := Ext.keep (w' := w1) (by repeat (first | exact Ext.refl _ | assumption | refine Ext.alloc ?_ _ | refine Ext.drew ?_ | refine Ext.trans ?_ (by assumption))) q1; have p0 := Ext.keep (w' := w1) (by repeat (first | exact Ext.refl _ | assumption | refine Ext.alloc ?_ _ | refine Ext.drew ?_ | refine Ext.trans ?_ (by assumption))) p0; have p1 := Ext.keep (w' := w1) (by repeat (first | exact Ext.refl _ | assumption | refine Ext.alloc ?_ _ | refine Ext.drew ?_ | refine Ext.trans ?_ (by assumption))) p1) | (go_at_call 51; refine (HO.out _ (by repeat (first | exact Ext.refl _ | assumption | refine Ext.alloc ?_ _ | refine Ext.drew ?_ | refine Ext.trans ?_ (by assumption)))).mono ?_; rintro e w1 ⟨rfl, hw1⟩; have q0 := Ext.keep (w' := w1) (by repeat (first | exact Ext.refl _ | assumption | refine Ext.alloc ?_ _ | refine Ext.drew ?_ | refine Ext.trans ?_ (by assumption))) q0; have q1 := Ext.keep (w' := w1) (by repeat (first | exact Ext.refl _ | assumption | refine Ext.alloc ?_ _ | refine Ext.drew ?_ | refine Ext.trans ?_ (by assumption))) q1; have p0 := Ext.keep (w' := w1) (by repeat (first | exact Ext.refl _ | assumption | refine Ext.alloc ?_ _ | refine Ext.drew ?_ | refine Ext.trans ?_ (by assumption))) p0; have p1 := Ext.keep (w' := w1) (by repeat (first | exact Ext.refl _ | assumption | refine Ext.alloc ?_ _ | refine Ext.drew ?_ | refine Ext.trans ?_ (by assumption))) p1))
      go_ret
      exact ⟨ret_bool HF.out.symm, (by repeat (first | exact Ext.refl _ | assumption | refine Ext.alloc ?_ _ | refine Ext.drew ?_ | refine Ext.trans ?_ (by assumption)))⟩
    cases ho : profOk sz2 ts
    · rw [hp] at HP
      rw [ho] at HO
      clear hp ho hall
      go_enter Tryz.func43, Tryz.ntmps43
      go_wp2_with (first | (go_at_call 92; refine (HP.out _ (by repeat (first | exact Ext.refl _ | assumption | refine Ext.alloc ?_ _ | refine Ext.drew ?_ | refine Ext.trans ?_ (by assumption)))).mono ?_; rintro e w1 ⟨rfl, hw1⟩; have q0 := Ext.keep (w' := w1) (by repeat (first | exact Ext.refl _ | assumption | refine Ext.alloc ?_ _ | refine Ext.drew ?_ | refine Ext.trans ?_ (by assumption))) q0; have q1 := Ext.keep (w' := w1) (by repeat (first | exact Ext.refl _ | assumption | refine Ext.alloc ?_ _ | refine Ext.drew ?_ | refine Ext.trans ?_ (by assumption))) q1; have p0 := Ext.keep (w' := w1) (by repeat (first | exact Ext.refl _ | assumption | refine Ext.alloc ?_ _ | refine Ext.drew ?_ | refine Ext.trans ?_ (by assumption))) p0; have p1 := Ext.keep (w' := w1) (by repeat (first | exact Ext.refl _ | assumption | refine Ext.alloc ?_ _ | refine Ext.drew ?_ | refine Ext.trans ?_ (by assumption))) p1) | (go_at_call 51; refine (HO.out _ (by repeat (first | exact Ext.refl _ | assumption | refine Ext.alloc ?_ _ | refine Ext.drew ?_ | refine Ext.trans ?_ (by assumption)))).mono ?_; rintro e w1 ⟨rfl, hw1⟩; have q0 := Ext.keep (w' := w1) (by repeat (first | exact Ext.refl _ | assumption | refine Ext.alloc ?_ _ | refine Ext.drew ?_ | refine Ext.trans ?_ (by assumption))) q0; have q1 := Ext.keep (w' := w1) (by repeat (first | exact Ext.refl _ | assumption | refine Ext.alloc ?_ _ | refine Ext.drew ?_ | refine Ext.trans ?_ (by assumption))) q1; have p0 := Ext.keep (w' := w1) (by repeat (first | exact Ext.refl _ | assumption | refine Ext.alloc ?_ _ | refine Ext.drew ?_ | refine Ext.trans ?_ (by assumption))) p0; have p1 := Ext.keep (w' := w1) (by repeat (first | exact Ext.refl _ | assumption | refine Ext.alloc ?_ _ | refine Ext.drew ?_ | refine Ext.trans ?_ (by assumption))) p1))
      go_ret
      exact ⟨ret_bool HF.out.symm, (by repeat (first | exact Ext.refl _ | assumption | refine Ext.alloc ?_ _ | refine Ext.drew ?_ | refine Ext.trans ?_ (by assumption)))⟩
    have hne : ¬ (sz2 = sz ∧ (ts.length : Int) = vs.length) := fun h => hall ⟨hp, ho, h⟩
    rw [hp] at HP
    rw [ho] at HO
    clear hp ho hall
    by_cases hs : sz2 = sz
    · have hl : ¬ ((ts.length : Int) = vs.length) := fun h => hne ⟨hs, h⟩
      subst hs
      clear hne
      go_enter Tryz.func43, Tryz.ntmps43
      go_wp2_with (first | (go_at_call 92; refine (HP.out _ (by repeat (first | exact Ext.refl _ | assumption | refine Ext.alloc ?_ _ | refine Ext.drew ?_ | refine Ext.trans ?_ (by assumption)))).mono ?_; rintro e w1 ⟨rfl, hw1⟩; have q0 := Ext.keep (w' := w1) (by repeat (first | exact Ext.refl _ | assumption | refine Ext.alloc ?_ _ | refine Ext.drew ?_ | refine Ext.trans ?_ (by assumption))) q0; have q1 := Ext.keep (w' := w1) (by repeat (first | exact Ext.refl _ | assumption | refine Ext.alloc ?_ _ | refine Ext.drew ?_ | refine Ext.trans ?_ (by assumption))) q1; have p0 := Ext.keep (w' := w1) (by repeat (first | exact Ext.refl _ | assumption | refine Ext.alloc ?_ _ | refine Ext.drew ?_ | refine Ext.trans ?_ (by assumption))) p0; have p1 := Ext.keep (w' := w1) (by repeat (first | exact Ext.refl _ | assumption | refine Ext.alloc ?_ _ | refine Ext.drew ?_ | refine Ext.trans ?_ (by assumption))) p1) | (go_at_call 51; refine (HO.out _ (by repeat (first | exact Ext.refl _ | assumption | refine Ext.alloc ?_ _ | refine Ext.drew ?_ | refine Ext.trans ?_ (by assumption)))).mono ?_; rintro e w1 ⟨rfl, hw1⟩; have q0 := Ext.keep (w' := w1) (by repeat (first | exact Ext.refl _ | assumption | refine Ext.alloc ?_ _ | refine Ext.drew ?_ | refine Ext.trans ?_ (by assumption))) q0; have q1 := Ext.keep (w' := w1) (by repeat (first | exact Ext.refl _ | assumption | refine Ext.alloc ?_ _ | refine Ext.drew ?_ | refine Ext.trans ?_ (by assumption))) q1; have p0 := Ext.keep (w' := w1) (by repeat (first | exact Ext.refl _ | assumption | refine Ext.alloc ?_ _ | refine Ext.drew ?_ | refine Ext.trans ?_ (by assumption))) p0; have p1 := Ext.keep (w' := w1) (by repeat (first | exact Ext.refl _ | assumption | refine Ext.alloc ?_ _ | refine Ext.drew ?_ | refine Ext.trans ?_ (by assumption))) p1))
      go_ret
      exact ⟨ret_bool HF.out.symm, (by repeat (first | exact Ext.refl _ | assumption | refine Ext.alloc ?_ _ | refine Ext.drew ?_ | refine Ext.trans ?_ (by assumption)))⟩
    · clear hne
      go_enter Tryz.func43, Tryz.ntmps43
      go_wp2_with (first | (go_at_call 92; refine (HP.out _ (by repeat (first | exact Ext.refl _ | assumption | refine Ext.alloc ?_ _ | refine Ext.drew ?_ | refine Ext.trans ?_ (by assumption)))).mono ?_; rintro e w1 ⟨rfl, hw1⟩; have q0 := Ext.keep (w' := w1) (by repeat (first | exact Ext.refl _ | assumption | refine Ext.alloc ?_ _ | refine Ext.drew ?_ | refine Ext.trans ?_ (by assumption))) q0; have q1 := Ext.keep (w' := w1) (by repeat (first | exact Ext.refl _ | assumption | refine Ext.alloc ?_ _ | refine Ext.drew ?_ | refine Ext.trans ?_ (by assumption))) q1; have p0 := Ext.keep (w' := w1) (by repeat (first | exact Ext.refl _ | assumption | refine Ext.alloc ?_ _ | refine Ext.drew ?_ | refine Ext.trans ?_ (by assumption))) p0; have p1 := Ext.keep (w' := w1) (by repeat (first | exact Ext.refl _ | assumption | refine Ext.alloc ?_ _ | refine Ext.drew ?_ | refine Ext.trans ?_ (by assumption))) p1) | (go_at_call 51; refine (HO.out _ (by repeat (first | exact Ext.refl _ | assumption | refine Ext.alloc ?_ _ | refine Ext.drew ?_ | refine Ext.trans ?_ (by assumption)))).mono ?_; rintro e w1 ⟨rfl, hw1⟩; have q0 := Ext.keep (w' := w1) (by repeat (first | exact Ext.refl _ | assumption | refine Ext.alloc ?_ _ | refine Ext.drew ?_ | refine Ext.trans ?_ (by assumption))) q0; have q1 := Ext.keep (w' := w1) (by repeat (first | exact Ext.refl _ | assumption | refine Ext.alloc ?_ _ | refine Ext.drew ?_ | refine Ext.trans ?_ (by assumption))) q1; have p0 := Ext.keep (w' := w1) (by repeat (first | exact Ext.refl _ | assumption | refine Ext.alloc ?_ _ | refine Ext.drew ?_ | refine Ext.trans ?_ (by assumption))) p0; have p1 := Ext.keep (w' := w1) (by repeat (first | exact Ext.refl _ | assumption | refine Ext.alloc ?_ _ | refine Ext.drew ?_ | refine Ext.trans ?_ (by assumption))) p1))
      go_ret
      exact ⟨ret_bool HF.out.symm, (by repeat (first | exact Ext.refl _ | assumption | refine Ext.alloc ?_ _ | refine Ext.drew ?_ | refine Ext.trans ?_ (by assumption)))⟩
  case pos =>
    obtain ⟨hp, ho, rfl, hl⟩ := hall
    obtain ⟨h0, h4, r1, r2⟩ := ply_ok hp
    have hsz := prof_size h0
    obtain ⟨n, rfl⟩ : ∃ n : Nat, sz2 = n := ⟨sz2.toNat, by omega⟩
    have HB : Hid (∀ (w' : World) (k : Nat) (ar : Option Addr) (cr : Nat) (x y : Vt), Ext w w' → vs[k]? = some x → ts[k]? = some y → RdI w' ar y.1 → Calls Tryz.prog 93 #[.int .i64 rule, .agg #[.int .i64 n, .slice a vs.length c], .int .i64 k, .slice ar y.1.length cr] w' fun e w'' => ∃ v, e = .returned v ∧ ((betB rule n vs k y.1 = true ∧ ∃ g c' l, v = .slice (some ⟨g, 0, none⟩) l c') ∨ (betB rule n vs k y.1 = false ∧ v = .slice none 0 0)) ∧ Ext w' w'') := fun w' k ar cr x y hw' hx hy hRy => by
      have hvk := prof_rk ho hy
      refine (bet_impl w' rule n a ar c cr k vs x y.1 hx (hR.ext hw') hRy hvk h0 r1 r2).mono ?_
      rintro e w'' ⟨v, rfl, h, hw''⟩
      refine ⟨v, rfl, ?_, hw''⟩
      rcases h with ⟨h1, g, c', h2, _⟩ | h
      · exact .inl ⟨h1, g, c', _, h2⟩
      · exact .inr h
    have HV : Hid (setO rule n vs n ts = allN ts.length (fun k => !betB rule n vs k (ts.getD k ([], 0)).1)) := hide (by
      unfold setO
      rw [hp, ho, show decide (ts.length = vs.length) = true by simp; omega]
      simp)
    have HL := hide hl
    rw [hp] at HP
    rw [ho] at HO
    have htl := (prof_small ho).1
    clear hp ho h0 r1 r2
    have hne : ∀ (W : World) (a : Addr) (n c : Nat), (binOp .neq 33 (.slice (some a) n c) (.slice none 0 0)).run Tryz.prog W = .ok (.bool true) W := fun W a n c => run_neq_some W a n c Tryz.underlying33
    have hnn : ∀ (W : World), (binOp .neq 33 (.slice none 0 0) (.slice none 0 0)).run Tryz.prog W = .ok (.bool false) W := fun W => run_neq_none W 0 0 Tryz.underlying33
    go_enter Tryz.func43, Tryz.ntmps43
    go_wp2_with (first | (go_at_call 92; refine (HP.out _ (by repeat (first | exact Ext.refl _ | assumption | refine Ext.alloc ?_ _ | refine Ext.drew ?_ | refine Ext.trans ?_ (by assumption)))).mono ?_; rintro e w1 ⟨rfl, hw1⟩; have q0 := Ext.keep (w' := w1) (by repeat (first | exact Ext.refl _ | assumption | refine Ext.alloc ?_ _ | refine Ext.drew ?_ | refine Ext.trans ?_ (by assumption))) q0; have q1 := Ext.keep (w' := w1) (by repeat (first | exact Ext.refl _ | assumption | refine Ext.alloc ?_ _ | refine Ext.drew ?_ | refine Ext.trans ?_ (by assumption))) q1; have p0 := Ext.keep (w' := w1) (by repeat (first | exact Ext.refl _ | assumption | refine Ext.alloc ?_ _ | refine Ext.drew ?_ | refine Ext.trans ?_ (by assumption))) p0; have p1 := Ext.keep (w' := w1) (by repeat (first | exact Ext.refl _ | assumption | refine Ext.alloc ?_ _ | refine Ext.drew ?_ | refine Ext.trans ?_ (by assumption))) p1) | (go_at_call 51; refine (HO.out _ (by repeat (first | exact Ext.refl _ | assumption | refine Ext.alloc ?_ _ | refine Ext.drew ?_ | refine Ext.trans ?_ (by assumption)))).mono ?_; rintro e w1 ⟨rfl, hw1⟩; have q0 := Ext.keep (w' := w1) (by repeat (first | exact Ext.refl _ | assumption | refine Ext.alloc ?_ _ | refine Ext.drew ?_ | refine Ext.trans ?_ (by assumption))) q0; have q1 := Ext.keep (w' := w1) (by repeat (first | exact Ext.refl _ | assumption | refine Ext.alloc ?_ _ | refine Ext.drew ?_ | refine Ext.trans ?_ (by assumption))) q1; have p0 := Ext.keep (w' := w1) (by repeat (first | exact Ext.refl _ | assumption | refine Ext.alloc ?_ _ | refine Ext.drew ?_ | refine Ext.trans ?_ (by assumption))) p0; have p1 := Ext.keep (w' := w1) (by repeat (first | exact Ext.refl _ | assumption | refine Ext.alloc ?_ _ | refine Ext.drew ?_ | refine Ext.trans ?_ (by assumption))) p1))
    clear HP HO
    have hw : Ext w w1 := (by repeat (first | exact Ext.refl _ | assumption | refine Ext.alloc ?_ _ | refine Ext.drew ?_ | refine Ext.trans ?_ (by assumption)))
    obtain ⟨wb, hwb⟩ : ∃ wb : World, wb = w1 := ⟨_, rfl⟩
    subst hwb
    go_loopw [7, 8, 37] (fun _ _ i wr => ∃ m : Nat, m ≤ ts.length ∧ i = .int .i64 m ∧ Hid (allN m (fun k => !betB rule n vs k (ts.getD k ([], 0)).1) = true) ∧ Ext wb wr) (fun _ _ i _ => ts.length - (intOf i).toNat)
    case atStart => exact ⟨0, Nat.zero_le _, rfl, hide (by simp [allN]), Ext.refl _⟩
    case round =>
      obtain ⟨m, hm, rfl, hall, hwr⟩ := hrel
      have q0 := hwr.keep q0
      have q1 := hwr.keep q1
      by_cases hmt : m < ts.length
      · obtain ⟨y, hy⟩ := at_of_lt hmt
        obtain ⟨x, hx⟩ := at_of_lt (xs := vs) (k := m) (by have := HL.out; omega)
        have HS := hide (allN_succ m (fun k => !betB rule n vs k (ts.getD k ([], 0)).1))
        have HG : Hid (ts.getD m ([], 0) = y) := hide (by simp [List.getD, hy])
        obtain ⟨b, off, a', c', rfl, c0, c1, hc', hRx⟩ := (hT.ext (hw.trans hwr)).at_ hy
        have e0 := new0 wr (.slice a' y.1.length c') [.int .i64 y.2] 60
        have e1 := new1 wr (.slice a' y.1.length c') (.int .i64 y.2) [] 60
        have hE2 := Ext.new wr (.cells #[.slice a' y.1.length c', .int .i64 y.2] 60)
        have HBC := hide (HB.out (wr.alloc (.cells #[.slice a' y.1.length c', .int .i64 y.2] 60)) m a' c' x y (hw.trans (hwr.trans hE2)) hx hy (hRx.ext hE2))
        have HXE : Hid (Ext w wr) := hide (hw.trans hwr)
        have hm1 : m + 1 ≤ ts.length := by omega
        clear hx hy hE2
        go_wp2_with fail
        refine HBC.out.mono ?_
        rintro e w4 ⟨v, rfl, h, hw4⟩
        rcases h with ⟨h1, g, c4, l, rfl⟩ | ⟨h1, rfl⟩
        · have HF : Hid (allN ts.length (fun k => !betB rule n vs k (ts.getD k ([], 0)).1) = false) := hide (by
            rw [Bool.eq_false_iff]
            intro h
            have := allN_iff.1 h m hmt
            rw [HG.out, h1] at this
            cases this)
          clear h1
          go_wp2
          go_ret
          exact ⟨ret_bool (by rw [HV.out, HF.out]), HXE.out.trans (by repeat (first | exact Ext.refl _ | assumption | refine Ext.alloc ?_ _ | refine Ext.drew ?_ | refine Ext.trans ?_ (by assumption)))⟩
        · have HN : Hid (allN (m + 1) (fun k => !betB rule n vs k (ts.getD k ([], 0)).1) = true) := hide (by rw [HS.out, hall.out, HG.out, h1]; rfl)
          clear h1
          go_wp2
          exact ⟨⟨m + 1, hm1, by go_num, HN, (by repeat (first | exact Ext.refl _ | assumption | refine Ext.alloc ?_ _ | refine Ext.drew ?_ | refine Ext.trans ?_ (by assumption)))⟩, by simp [intOf]; omega⟩
      · have hmn : m = ts.length := by omega
        go_wp2
        go_ret
        exact ⟨ret_bool (by rw [HV.out, ← hmn, hall.out]), hw.trans hwr⟩

end Go.Proofs.YtblkbdfndbpndaaGreat
