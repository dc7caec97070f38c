/- FnExactIsSettled, walked in the spec. -/
import Derived.Test.YtblkbdfndbpndaaGreatSetW
namespace Go.Proofs.YtblkbdfndbpndaaGreat
open Go.RowKit

set_option maxRecDepth 100000 in
set_option maxHeartbeats 8000000 in
theorem set_spec (w : World) (rule sz : Int) (a : Option Addr) (c : Nat) (vs : List Vt) (sz2 : Int) (a2 : Option Addr) (c2 : Nat) (ts : List Vt) (hR : RdV w a vs) (hT : RdV w a2 ts) :
    Calls Tryz.prog 42 #[.int .i64 rule, .agg #[.int .i64 sz, .slice a vs.length c], .agg #[.int .i64 sz2, .slice a2 ts.length c2]] w fun e w' => e = .returned (.bool (setO rule sz vs sz2 ts)) ∧ Ext w w' := by
  have q0 := new0 w (.int .i64 sz) [.slice a vs.length c] 29
  have q1 := new1 w (.int .i64 sz) (.slice a vs.length c) [] 29
  have p0 := new0 (w.alloc (.cells #[.int .i64 sz, .slice a vs.length c] 29)) (.int .i64 sz2) [.slice a2 ts.length c2] 29
  have p1 := new1 (w.alloc (.cells #[.int .i64 sz, .slice a vs.length c] 29)) (.int .i64 sz2) (.slice a2 ts.length c2) [] 29
  have hE1 := Ext.new (w.alloc (.cells #[.int .i64 sz, .slice a vs.length c] 29)) (.cells #[.int .i64 sz2, .slice a2 ts.length c2] 29)
  have q0 := hE1.keep q0
  have q1 := hE1.keep q1
  rw [show (w.alloc (.cells #[.int .i64 sz, .slice a vs.length c] 29)).heap.size = w.heap.size + 1 by simp] at p0 p1
  clear hE1
  have HP : Hid (∀ w', Ext w w' → Calls Tryz.prog 90 #[.int .i64 rule, .agg #[.int .i64 sz, .slice a vs.length c]] w' fun e w'' => e = .returned (.bool (plyB rule sz vs)) ∧ Ext w' w'') := fun w' hw' => ply_spec w' rule sz a c vs (hR.ext hw')
  have HO : Hid (∀ w', Ext w w' → Calls Tryz.prog 49 #[.agg #[.int .i64 sz2, .slice a2 ts.length c2]] w' fun e w'' => e = .returned (.bool (profOk sz2 ts)) ∧ Ext w' w'') := fun w' hw' => prof_spec w' sz2 a2 c2 ts (hT.ext hw')
  by_cases hall : plyB rule sz vs = true ∧ profOk sz2 ts = true ∧ sz2 = sz ∧ (ts.length : Int) = vs.length
  case neg =>
    have HF := hide (setO_no hall)
    cases hp : plyB rule sz vs
    · rw [hp] at HP
      clear hp hall
      go_enter Tryz.func42, Tryz.ntmps42
      go_wp2_with (first | (go_at_call 90; refine (HP.out _ (by repeat (first | exact Ext.refl _ | assumption | refine Ext.alloc ?_ _ | refine Ext.drew ?_ | refine Ext.trans ?_ (by assumption)))).mono ?_; rintro e w1 ⟨rfl, hw1⟩; have q0 := Ext.keep (w' := w1) (by repeat (first | exact Ext.refl _ | assumption | refine Ext.alloc ?_ _ | refine Ext.drew ?_ | refine Ext.trans ?_ (by assumption))) q0; have q1 := Ext.keep (w' := w1) (by repeat (first | exact Ext.refl _ | assumption | refine Ext.alloc ?_ _ | refine Ext.drew ?_ | refine Ext.trans ?_ (by assumption))) q1; have p0 := Ext.keep (w' := w1) (by repeat (first | exact Ext.refl _ | assumption | refine Ext.alloc ?_ _ | refine Ext.drew ?_ | refine Ext.trans ?_ (by assumption))) p0; have p1 := Ext.keep (w' := w1) (by repeat (first | exact Ext.refl _ | assumption | refine Ext.alloc ?_ _ | refine Ext.drew ?_ | refine Ext.trans ?_ (by assumption))) p1) | (go_at_call 49; refine (HO.out _ (by repeat (first | exact Ext.refl _ | assumption | refine Ext.alloc ?_ _ | refine Ext.drew ?_ | refine Ext.trans ?_ (by assumption)))).mono ?_; rintro e w1 ⟨rfl, hw1⟩; have q0 := Ext.keep (w' := w1) (by repeat (first | exact Ext.refl _ | assumption | refine Ext.alloc ?_ _ | refine Ext.drew ?_ | refine Ext.trans ?_ (by assumption))) q0; have q1 := Ext.keep (w' := w1) (by repeat (first | exact Ext.refl _ | assumption | refine Ext.alloc ?_ _ | refine Ext.drew ?_ | refine Ext.trans ?_ (by assumption))) q1; have p0 := Ext.keep (w' := w1) (by repeat (first | exact Ext.refl _ | assumption | refine Ext.alloc ?_ _ | refine Ext.drew ?_ | refine Ext.trans ?_ (by assumption))) p0; have p1 := Ext.keep (w' := w1) (by repeat (first | exact Ext.refl _ | assumption | refine Ext.alloc ?_ _ | refine Ext.drew ?_ | refine Ext.trans ?_ (by assumption))) p1))
      go_ret
      exact ⟨ret_bool HF.out.symm, (by repeat (first | exact Ext.refl _ | assumption | refine Ext.alloc ?_ _ | refine Ext.drew ?_ | refine Ext.trans ?_ (by assumption)))⟩
    cases ho : profOk sz2 ts
    · rw [hp] at HP
      rw [ho] at HO
      clear hp ho hall
      go_enter Tryz.func42, Tryz.ntmps42
      go_wp2_with (first | (go_at_call 90; refine (HP.out _ (by repeat (first | exact Ext.refl _ | assumption | refine Ext.alloc ?_ _ | refine Ext.drew ?_ | refine Ext.trans ?_ (by assumption)))).mono ?_; rintro e w1 ⟨rfl, hw1⟩; have q0 := Ext.keep (w' := w1) (by repeat (first | exact Ext.refl _ | assumption | refine Ext.alloc ?_ _ | refine Ext.drew ?_ | refine Ext.trans ?_ (by assumption))) q0; have q1 := Ext.keep (w' := w1) (by repeat (first | exact Ext.refl _ | assumption | refine Ext.alloc ?_ _ | refine Ext.drew ?_ | refine Ext.trans ?_ (by assumption))) q1; have p0 := Ext.keep (w' := w1) (by repeat (first | exact Ext.refl _ | assumption | refine Ext.alloc ?_ _ | refine Ext.drew ?_ | refine Ext.trans ?_ (by assumption))) p0; have p1 := Ext.keep (w' := w1) (by repeat (first | exact Ext.refl _ | assumption | refine Ext.alloc ?_ _ | refine Ext.drew ?_ | refine Ext.trans ?_ (by assumption))) p1) | (go_at_call 49; refine (HO.out _ (by repeat (first | exact Ext.refl _ | assumption | refine Ext.alloc ?_ _ | refine Ext.drew ?_ | refine Ext.trans ?_ (by assumption)))).mono ?_; rintro e w1 ⟨rfl, hw1⟩; have q0 := Ext.keep (w' := w1) (by repeat (first | exact Ext.refl _ | assumption | refine Ext.alloc ?_ _ | refine Ext.drew ?_ | refine Ext.trans ?_ (by assumption))) q0; have q1 := Ext.keep (w' := w1) (by repeat (first | exact Ext.refl _ | assumption | refine Ext.alloc ?_ _ | refine Ext.drew ?_ | refine Ext.trans ?_ (by assumption))) q1; have p0 := Ext.keep (w' := w1) (by repeat (first | exact Ext.refl _ | assumption | refine Ext.alloc ?_ _ | refine Ext.drew ?_ | refine Ext.trans ?_ (by assumption))) p0; have p1 := Ext.keep (w' := w1) (by repeat (first | exact Ext.refl _ | assumption | refine Ext.alloc ?_ _ | refine Ext.drew ?_ | refine Ext.trans ?_ (by assumption))) p1))
      go_ret
      exact ⟨ret_bool HF.out.symm, (by repeat (first | exact Ext.refl _ | assumption | refine Ext.alloc ?_ _ | refine Ext.drew ?_ | refine Ext.trans ?_ (by assumption)))⟩
    have hne : ¬ (sz2 = sz ∧ (ts.length : Int) = vs.length) := fun h => hall ⟨hp, ho, h⟩
    rw [hp] at HP
    rw [ho] at HO
    clear hp ho hall
    by_cases hs : sz2 = sz
    · have hl : ¬ ((ts.length : Int) = vs.length) := fun h => hne ⟨hs, h⟩
      subst hs
      clear hne
      go_enter Tryz.func42, Tryz.ntmps42
      go_wp2_with (first | (go_at_call 90; refine (HP.out _ (by repeat (first | exact Ext.refl _ | assumption | refine Ext.alloc ?_ _ | refine Ext.drew ?_ | refine Ext.trans ?_ (by assumption)))).mono ?_; rintro e w1 ⟨rfl, hw1⟩; have q0 := Ext.keep (w' := w1) (by repeat (first | exact Ext.refl _ | assumption | refine Ext.alloc ?_ _ | refine Ext.drew ?_ | refine Ext.trans ?_ (by assumption))) q0; have q1 := Ext.keep (w' := w1) (by repeat (first | exact Ext.refl _ | assumption | refine Ext.alloc ?_ _ | refine Ext.drew ?_ | refine Ext.trans ?_ (by assumption))) q1; have p0 := Ext.keep (w' := w1) (by repeat (first | exact Ext.refl _ | assumption | refine Ext.alloc ?_ _ | refine Ext.drew ?_ | refine Ext.trans ?_ (by assumption))) p0; have p1 := Ext.keep (w' := w1) (by repeat (first | exact Ext.refl _ | assumption | refine Ext.alloc ?_ _ | refine Ext.drew ?_ | refine Ext.trans ?_ (by assumption))) p1) | (go_at_call 49; refine (HO.out _ (by repeat (first | exact Ext.refl _ | assumption | refine Ext.alloc ?_ _ | refine Ext.drew ?_ | refine Ext.trans ?_ (by assumption)))).mono ?_; rintro e w1 ⟨rfl, hw1⟩; have q0 := Ext.keep (w' := w1) (by repeat (first | exact Ext.refl _ | assumption | refine Ext.alloc ?_ _ | refine Ext.drew ?_ | refine Ext.trans ?_ (by assumption))) q0; have q1 := Ext.keep (w' := w1) (by repeat (first | exact Ext.refl _ | assumption | refine Ext.alloc ?_ _ | refine Ext.drew ?_ | refine Ext.trans ?_ (by assumption))) q1; have p0 := Ext.keep (w' := w1) (by repeat (first | exact Ext.refl _ | assumption | refine Ext.alloc ?_ _ | refine Ext.drew ?_ | refine Ext.trans ?_ (by assumption))) p0; have p1 := Ext.keep (w' := w1) (by repeat (first | exact Ext.refl _ | assumption | refine Ext.alloc ?_ _ | refine Ext.drew ?_ | refine Ext.trans ?_ (by assumption))) p1))
      go_ret
      exact ⟨ret_bool HF.out.symm, (by repeat (first | exact Ext.refl _ | assumption | refine Ext.alloc ?_ _ | refine Ext.drew ?_ | refine Ext.trans ?_ (by assumption)))⟩
    · clear hne
      go_enter Tryz.func42, Tryz.ntmps42
      go_wp2_with (first | (go_at_call 90; refine (HP.out _ (by repeat (first | exact Ext.refl _ | assumption | refine Ext.alloc ?_ _ | refine Ext.drew ?_ | refine Ext.trans ?_ (by assumption)))).mono ?_; rintro e w1 ⟨rfl, hw1⟩; have q0 := Ext.keep (w' := w1) (by repeat (first | exact Ext.refl _ | assumption | refine Ext.alloc ?_ _ | refine Ext.drew ?_ | refine Ext.trans ?_ (by assumption))) q0; have q1 := Ext.keep (w' := w1) (by repeat (first | exact Ext.refl _ | assumption | refine Ext.alloc ?_ _ | refine Ext.drew ?_ | refine Ext.trans ?_ (by assumption))) q1; have p0 := Ext.keep (w' := w1) (by repeat (first | exact Ext.refl _ | assumption | refine Ext.alloc ?_ _ | refine Ext.drew ?_ | refine Ext.trans ?_ (by assumption))) p0; have p1 := Ext.keep (w' := w1) (by repeat (first | exact Ext.refl _ | assumption | refine Ext.alloc ?_ _ | refine Ext.drew ?_ | refine Ext.trans ?_ (by assumption))) p1) | (go_at_call 49; refine (HO.out _ (by repeat (first | exact Ext.refl _ | assumption | refine Ext.alloc ?_ _ | refine Ext.drew ?_ | refine Ext.trans ?_ (by assumption)))).mono ?_; rintro e w1 ⟨rfl, hw1⟩; have q0 := Ext.keep (w' := w1) (by repeat (first | exact Ext.refl _ | assumption | refine Ext.alloc ?_ _ | refine Ext.drew ?_ | refine Ext.trans ?_ (by assumption))) q0; have q1 := Ext.keep (w' := w1) (by repeat (first | exact Ext.refl _ | assumption | refine Ext.alloc ?_ _ | refine Ext.drew ?_ | refine Ext.trans ?_ (by assumption))) q1; have p0 := Ext.keep (w' := w1) (by repeat (first | exact Ext.refl _ | assumption | refine Ext.alloc ?_ _ | refine Ext.drew ?_ | refine Ext.trans ?_ (by assumption))) p0; have p1 := Ext.keep (w' := w1) (by repeat (first | exact Ext.refl _ | assumption | refine Ext.alloc ?_ _ | refine Ext.drew ?_ | refine Ext.trans ?_ (by assumption))) p1))
      go_ret
      exact ⟨ret_bool HF.out.symm, (by repeat (first | exact Ext.refl _ | assumption | refine Ext.alloc ?_ _ | refine Ext.drew ?_ | refine Ext.trans ?_ (by assumption)))⟩
  case pos =>
    obtain ⟨hp, ho, rfl, hl⟩ := hall
    obtain ⟨h0, h4, r1, r2⟩ := ply_ok hp
    have hsz := prof_size h0
    obtain ⟨n, rfl⟩ : ∃ n : Nat, sz2 = n := ⟨sz2.toNat, by omega⟩
    have HB : Hid (∀ (w' : World) (k : Nat) (ar : Option Addr) (cr : Nat) (x y : Vt), Ext w w' → vs[k]? = some x → ts[k]? = some y → RdI w' ar y.1 → Calls Tryz.prog 91 #[.int .i64 rule, .agg #[.int .i64 n, .slice a vs.length c], .int .i64 k, .slice ar y.1.length cr] w' fun e w'' => ∃ v b, e = .returned (.tuple #[v, .int .i64 b]) ∧ Hid (betB rule n vs k y.1 = prefB y.1 b (winB rule n vs)) ∧ Ext w' w'') := fun w' k ar cr x y hw' hx hy hRy => by
      have hvk := (rk_len (prof_rk ho hy)).2
      refine (rep_spec w' rule n a ar c cr k vs x y.1 hx (hR.ext hw') hRy hvk h0).mono ?_
      rintro e w'' ⟨v, rfl, _, hw''⟩
      exact ⟨v, _, rfl, hide (by unfold betB; rw [Int.toNat_natCast]), hw''⟩
    have HWB : Hid (∀ w', Ext w w' → Calls Tryz.prog 16 #[.int .i64 rule, .agg #[.int .i64 n, .slice a vs.length c]] w' fun e w'' => e = .returned (.int .i64 (winB rule n vs)) ∧ Ext w' w'') := fun w' hw' => winb_spec w' rule n a c vs (hR.ext hw')
    have HRL := hide (fun (k : Nat) (y : Vt) (hy : ts[k]? = some y) => (rk_len (prof_rk ho hy)).2)
    have HV : Hid (setO rule n vs n ts = allN ts.length (fun k => !betB rule n vs k (ts.getD k ([], 0)).1)) := hide (by
      unfold setO
      rw [hp, ho, show decide (ts.length = vs.length) = true by simp; omega]
      simp)
    have HL := hide hl
    rw [hp] at HP
    rw [ho] at HO
    have htl := (prof_small ho).1
    clear hp ho h0 r1 r2
    go_enter Tryz.func42, Tryz.ntmps42
    go_wp2_with (first | (go_at_call 90; refine (HP.out _ (by repeat (first | exact Ext.refl _ | assumption | refine Ext.alloc ?_ _ | refine Ext.drew ?_ | refine Ext.trans ?_ (by assumption)))).mono ?_; rintro e w1 ⟨rfl, hw1⟩; have q0 := Ext.keep (w' := w1) (by repeat (first | exact Ext.refl _ | assumption | refine Ext.alloc ?_ _ | refine Ext.drew ?_ | refine Ext.trans ?_ (by assumption))) q0; have q1 := Ext.keep (w' := w1) (by repeat (first | exact Ext.refl _ | assumption | refine Ext.alloc ?_ _ | refine Ext.drew ?_ | refine Ext.trans ?_ (by assumption))) q1; have p0 := Ext.keep (w' := w1) (by repeat (first | exact Ext.refl _ | assumption | refine Ext.alloc ?_ _ | refine Ext.drew ?_ | refine Ext.trans ?_ (by assumption))) p0; have p1 := Ext.keep (w' := w1) (by repeat (first | exact Ext.refl _ | assumption | refine Ext.alloc ?_ _ | refine Ext.drew ?_ | refine Ext.trans ?_ (by assumption))) p1) | (go_at_call 49; refine (HO.out _ (by repeat (first | exact Ext.refl _ | assumption | refine Ext.alloc ?_ _ | refine Ext.drew ?_ | refine Ext.trans ?_ (by assumption)))).mono ?_; rintro e w1 ⟨rfl, hw1⟩; have q0 := Ext.keep (w' := w1) (by repeat (first | exact Ext.refl _ | assumption | refine Ext.alloc ?_ _ | refine Ext.drew ?_ | refine Ext.trans ?_ (by assumption))) q0; have q1 := Ext.keep (w' := w1) (by repeat (first | exact Ext.refl _ | assumption | refine Ext.alloc ?_ _ | refine Ext.drew ?_ | refine Ext.trans ?_ (by assumption))) q1; have p0 := Ext.keep (w' := w1) (by repeat (first | exact Ext.refl _ | assumption | refine Ext.alloc ?_ _ | refine Ext.drew ?_ | refine Ext.trans ?_ (by assumption))) p0; have p1 := Ext.keep (w' := w1) (by repeat (first | exact Ext.refl _ | assumption | refine Ext.alloc ?_ _ | refine Ext.drew ?_ | refine Ext.trans ?_ (by assumption))) p1))
    clear HP HO
    have hw : Ext w w1 := (by repeat (first | exact Ext.refl _ | assumption | refine Ext.alloc ?_ _ | refine Ext.drew ?_ | refine Ext.trans ?_ (by assumption)))
    obtain ⟨wb, hwb⟩ : ∃ wb : World, wb = w1 := ⟨_, rfl⟩
    subst hwb
    go_loopw [7, 8, 9, 10, 39] (fun _ _ _ _ i wr => ∃ m : Nat, m ≤ ts.length ∧ i = .int .i64 m ∧ Hid (allN m (fun k => !betB rule n vs k (ts.getD k ([], 0)).1) = true) ∧ Ext wb wr) (fun _ _ _ _ i _ => ts.length - (intOf i).toNat)
    case atStart => exact ⟨0, Nat.zero_le _, rfl, hide (by simp [allN]), Ext.refl _⟩
    case round =>
      obtain ⟨m, hm, rfl, hall, hwr⟩ := hrel
      have P0 := hwr.keep q0
      have P1 := hwr.keep q1
      by_cases hmt : m < ts.length
      · obtain ⟨y, hy⟩ := at_of_lt hmt
        obtain ⟨x, hx⟩ := at_of_lt (xs := vs) (k := m) (by have := HL.out; omega)
        have HS := hide (allN_succ m (fun k => !betB rule n vs k (ts.getD k ([], 0)).1))
        have HG : Hid (ts.getD m ([], 0) = y) := hide (by simp [List.getD, hy])
        obtain ⟨b, off, a', c', rfl, c0, c1, hc', hRx⟩ := (hT.ext (hw.trans hwr)).at_ hy
        have e0 := new0 wr (.slice a' y.1.length c') [.int .i64 y.2] 60
        have e1 := new1 wr (.slice a' y.1.length c') (.int .i64 y.2) [] 60
        have hE2 := Ext.new wr (.cells #[.slice a' y.1.length c', .int .i64 y.2] 60)
        have HBC := hide (HB.out (wr.alloc (.cells #[.slice a' y.1.length c', .int .i64 y.2] 60)) m a' c' x y (hw.trans (hwr.trans hE2)) hx hy (hRx.ext hE2))
        have HXE : Hid (Ext w wr) := hide (hw.trans hwr)
        have hm1 : m + 1 ≤ ts.length := by omega
        have HY := hide hy
        clear hx hy hE2
        go_wp2_with fail
        refine HBC.out.mono ?_
        rintro e w4 ⟨v, b, rfl, hb, hw4⟩
        have hRy := hRx.ext (show Ext wr w4 from (by repeat (first | exact Ext.refl _ | assumption | refine Ext.alloc ?_ _ | refine Ext.drew ?_ | refine Ext.trans ?_ (by assumption))))
        have hyl := HRL.out m y HY.out
        have E0 := Ext.keep (w' := w4) (by repeat (first | exact Ext.refl _ | assumption | refine Ext.alloc ?_ _ | refine Ext.drew ?_ | refine Ext.trans ?_ (by assumption))) e0
        have Q0 := (show Ext wr w4 from (by repeat (first | exact Ext.refl _ | assumption | refine Ext.alloc ?_ _ | refine Ext.drew ?_ | refine Ext.trans ?_ (by assumption)))).keep P0
        have Q1 := (show Ext wr w4 from (by repeat (first | exact Ext.refl _ | assumption | refine Ext.alloc ?_ _ | refine Ext.drew ?_ | refine Ext.trans ?_ (by assumption)))).keep P1
        have E1 := Ext.keep (w' := w4) (by repeat (first | exact Ext.refl _ | assumption | refine Ext.alloc ?_ _ | refine Ext.drew ?_ | refine Ext.trans ?_ (by assumption))) e1
        cases hbt : prefB y.1 b (winB rule n vs)
        · have HN : Hid (allN (m + 1) (fun k => !betB rule n vs k (ts.getD k ([], 0)).1) = true) := hide (by rw [HS.out, hall.out, HG.out, hb.out, hbt]; rfl)
          have HPF : Hid (∀ w', Ext w4 w' → Calls Tryz.prog 74 #[.slice a' y.1.length c', .int .i64 b, .int .i64 (winB rule n vs)] w' fun e w'' => e = .returned (.bool false) ∧ Ext w' w'') := hide (fun w' hw' => by
            have h := pref_spec w' a' c' y.1 b (winB rule n vs) (hRy.ext hw') (by omega)
            rw [hbt] at h; exact h)
          clear hbt
          go_wp2_with fail
          refine wp_region_X (by kernel_rfl) (by kernel_rfl) ?_
          repeat' (refine wpX_stepQ (fun K hK => ?_)
                   go_simp
                   try (rw [if_neg (by intro h; simp [undef] at h)])
                   try split
                   all_goals
                     first
                     | (refine hK _ ?_
                        clear hK K)
                     | (apply Exists.intro
                        refine ⟨fun wq hwq => ?_, hK _ ?_⟩
                        · have hcq := hwq.cellS
                          go_simp
                          first
                          | exact ⟨Ext.refl _, rfl⟩
                          | exact ⟨Ext.refl _, HWB.out _ (HXE.out.trans (by repeat (first | exact Ext.refl _ | assumption | refine Ext.alloc ?_ _ | refine Ext.drew ?_ | refine Ext.trans ?_ (by assumption))))⟩
                          | exact ⟨Ext.refl _, HPF.out _ (by repeat (first | exact Ext.refl _ | assumption | refine Ext.alloc ?_ _ | refine Ext.drew ?_ | refine Ext.trans ?_ (by assumption)))⟩
                        clear hK K))
          refine wpX_nil (fun wz hwz => ?_)
          go_wp2
          exact ⟨⟨m + 1, hm1, by go_num, HN, (by repeat (first | exact Ext.refl _ | assumption | refine Ext.alloc ?_ _ | refine Ext.drew ?_ | refine Ext.trans ?_ (by assumption)))⟩, by simp [intOf]; omega⟩
        · have HF : Hid (allN ts.length (fun k => !betB rule n vs k (ts.getD k ([], 0)).1) = false) := hide (by
            rw [Bool.eq_false_iff]
            intro h
            have := allN_iff.1 h m hmt
            rw [HG.out, hb.out, hbt] at this
            cases this)
          have HPF : Hid (∀ w', Ext w4 w' → Calls Tryz.prog 74 #[.slice a' y.1.length c', .int .i64 b, .int .i64 (winB rule n vs)] w' fun e w'' => e = .returned (.bool true) ∧ Ext w' w'') := hide (fun w' hw' => by
            have h := pref_spec w' a' c' y.1 b (winB rule n vs) (hRy.ext hw') (by omega)
            rw [hbt] at h; exact h)
          clear hbt
          go_wp2_with fail
          refine wp_region_X (by kernel_rfl) (by kernel_rfl) ?_
          repeat' (refine wpX_stepQ (fun K hK => ?_)
                   go_simp
                   try (rw [if_neg (by intro h; simp [undef] at h)])
                   try split
                   all_goals
                     first
                     | (refine hK _ ?_
                        clear hK K)
                     | (apply Exists.intro
                        refine ⟨fun wq hwq => ?_, hK _ ?_⟩
                        · have hcq := hwq.cellS
                          go_simp
                          first
                          | exact ⟨Ext.refl _, rfl⟩
                          | exact ⟨Ext.refl _, HWB.out _ (HXE.out.trans (by repeat (first | exact Ext.refl _ | assumption | refine Ext.alloc ?_ _ | refine Ext.drew ?_ | refine Ext.trans ?_ (by assumption))))⟩
                          | exact ⟨Ext.refl _, HPF.out _ (by repeat (first | exact Ext.refl _ | assumption | refine Ext.alloc ?_ _ | refine Ext.drew ?_ | refine Ext.trans ?_ (by assumption)))⟩
                        clear hK K))
          refine wpX_nil (fun wz hwz => ?_)
          go_wp2
          go_ret
          exact ⟨ret_bool (by rw [HV.out, HF.out]), HXE.out.trans (by repeat (first | exact Ext.refl _ | assumption | refine Ext.alloc ?_ _ | refine Ext.drew ?_ | refine Ext.trans ?_ (by assumption)))⟩
      · have hmn : m = ts.length := by omega
        go_wp2
        go_ret
        exact ⟨ret_bool (by rw [HV.out, ← hmn, hall.out]), hw.trans hwr⟩

end Go.Proofs.YtblkbdfndbpndaaGreat
