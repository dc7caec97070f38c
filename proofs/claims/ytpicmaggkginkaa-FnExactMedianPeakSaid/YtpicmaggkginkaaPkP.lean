/- Single-peaked profiles: the tests of both packages. -/
import Derived.Test.YtpicmaggkginkaaPk
namespace Go.Proofs.Ytpicmaggkginkaa
open Go.RowKit

def pkpB (sz : Int) (ax : List Int) (vs : List Vt) : Bool := profOk sz vs && (rkOk sz ax && vs.all (fun x => pkO ax x.1))

set_option maxRecDepth 100000 in
set_option maxHeartbeats 2000000 in
theorem pkp_spec (w : World) (sz : Int) (a a2 : Option Addr) (c c2 : Nat) (vs : List Vt) (ax : List Int) (hR : RdV w a vs) (hR2 : RdI w a2 ax) :
    Calls Try.prog 120 #[.agg #[.int .i64 sz, .slice a vs.length c], .slice a2 ax.length c2] w fun e w' => e = .returned (.bool (pkpB sz ax vs)) ∧ Ext w w' := by
  have q0 := new0 w (.int .i64 sz) [.slice a vs.length c] 30
  have q1 := new1 w (.int .i64 sz) (.slice a vs.length c) [] 30
  cases h0 : profOk sz vs
  · go_enter Try.func120, Try.ntmps120
    go_wp2_with (go_at_call 51; refine (prof_spec _ _ _ _ _ (hR.ext (by repeat (first | exact Ext.refl _ | assumption | refine Ext.alloc ?_ _ | refine Ext.drew ?_ | refine Ext.trans ?_ (by assumption))))).mono ?_; rintro e w1 ⟨rfl, hw1⟩; have q0 := Ext.keep (w' := w1) (by repeat (first | exact Ext.refl _ | assumption | refine Ext.alloc ?_ _ | refine Ext.drew ?_ | refine Ext.trans ?_ (by assumption))) q0; have q1 := Ext.keep (w' := w1) (by repeat (first | exact Ext.refl _ | assumption | refine Ext.alloc ?_ _ | refine Ext.drew ?_ | refine Ext.trans ?_ (by assumption))) q1)
    go_ret
    exact ⟨ret_bool (by simp [pkpB, h0]), (by repeat (first | exact Ext.refl _ | assumption | refine Ext.alloc ?_ _ | refine Ext.drew ?_ | refine Ext.trans ?_ (by assumption)))⟩
  cases h1 : rkOk sz ax
  · go_enter Try.func120, Try.ntmps120
    go_wp2_with (first | (go_at_call 51; refine (prof_spec _ _ _ _ _ (hR.ext (by repeat (first | exact Ext.refl _ | assumption | refine Ext.alloc ?_ _ | refine Ext.drew ?_ | refine Ext.trans ?_ (by assumption))))).mono ?_; rintro e w1 ⟨rfl, hw1⟩; have q0 := Ext.keep (w' := w1) (by repeat (first | exact Ext.refl _ | assumption | refine Ext.alloc ?_ _ | refine Ext.drew ?_ | refine Ext.trans ?_ (by assumption))) q0; have q1 := Ext.keep (w' := w1) (by repeat (first | exact Ext.refl _ | assumption | refine Ext.alloc ?_ _ | refine Ext.drew ?_ | refine Ext.trans ?_ (by assumption))) q1) | (go_at_call 107; refine (rank_spec _ _ _ _ _ (hR2.ext (by repeat (first | exact Ext.refl _ | assumption | refine Ext.alloc ?_ _ | refine Ext.drew ?_ | refine Ext.trans ?_ (by assumption))))).mono ?_; rintro e w1 ⟨rfl, hw1⟩; have q0 := Ext.keep (w' := w1) (by repeat (first | exact Ext.refl _ | assumption | refine Ext.alloc ?_ _ | refine Ext.drew ?_ | refine Ext.trans ?_ (by assumption))) q0; have q1 := Ext.keep (w' := w1) (by repeat (first | exact Ext.refl _ | assumption | refine Ext.alloc ?_ _ | refine Ext.drew ?_ | refine Ext.trans ?_ (by assumption))) q1))
    go_ret
    exact ⟨ret_bool (by simp [pkpB, h1]), (by repeat (first | exact Ext.refl _ | assumption | refine Ext.alloc ?_ _ | refine Ext.drew ?_ | refine Ext.trans ?_ (by assumption)))⟩
  have HS := hide (prof_small h0)
  have hvl := (prof_small h0).1
  have hpb : pkpB sz ax vs = vs.all (fun x => pkO ax x.1) := by simp [pkpB, h0, h1]
  have HPB := hide hpb
  obtain ⟨lax, lax5⟩ := rk_len h1
  clear hpb lax
  go_enter Try.func120, Try.ntmps120
  go_wp2_with (first | (go_at_call 51; refine (prof_spec _ _ _ _ _ (hR.ext (by repeat (first | exact Ext.refl _ | assumption | refine Ext.alloc ?_ _ | refine Ext.drew ?_ | refine Ext.trans ?_ (by assumption))))).mono ?_; rintro e w1 ⟨rfl, hw1⟩; have q0 := Ext.keep (w' := w1) (by repeat (first | exact Ext.refl _ | assumption | refine Ext.alloc ?_ _ | refine Ext.drew ?_ | refine Ext.trans ?_ (by assumption))) q0; have q1 := Ext.keep (w' := w1) (by repeat (first | exact Ext.refl _ | assumption | refine Ext.alloc ?_ _ | refine Ext.drew ?_ | refine Ext.trans ?_ (by assumption))) q1) | (go_at_call 107; refine (rank_spec _ _ _ _ _ (hR2.ext (by repeat (first | exact Ext.refl _ | assumption | refine Ext.alloc ?_ _ | refine Ext.drew ?_ | refine Ext.trans ?_ (by assumption))))).mono ?_; rintro e w1 ⟨rfl, hw1⟩; have q0 := Ext.keep (w' := w1) (by repeat (first | exact Ext.refl _ | assumption | refine Ext.alloc ?_ _ | refine Ext.drew ?_ | refine Ext.trans ?_ (by assumption))) q0; have q1 := Ext.keep (w' := w1) (by repeat (first | exact Ext.refl _ | assumption | refine Ext.alloc ?_ _ | refine Ext.drew ?_ | refine Ext.trans ?_ (by assumption))) q1))
  obtain ⟨wb, hwb⟩ : ∃ wb : World, wb = w1 := ⟨_, rfl⟩
  subst hwb
  have hw : Ext w wb := (by repeat (first | exact Ext.refl _ | assumption | refine Ext.alloc ?_ _ | refine Ext.drew ?_ | refine Ext.trans ?_ (by assumption)))
  clear hw1
  go_loopw [6, 20] (fun _ i wr => ∃ k : Nat, k ≤ vs.length ∧ i = .int .i64 k ∧ Hid ((vs.take k).all (fun x => pkO ax x.1) = true) ∧ Ext wb wr) (fun _ i _ => vs.length - (intOf i).toNat)
  case atStart => exact ⟨0, Nat.zero_le _, rfl, rfl, Ext.refl _⟩
  case round =>
    obtain ⟨k, hk, rfl, hall, hwr⟩ := hrel
    have hwx := hw.trans hwr
    by_cases hlt : k < vs.length
    · obtain ⟨v, hx⟩ := at_of_lt hlt
      obtain ⟨b, off, a', c', rfl, c0, c1, hc', hRx⟩ := (hR.ext hwx).at_ hx
      obtain ⟨x0, _, _⟩ := HS.out.2 v (List.mem_of_getElem? hx)
      have hxl := (rk_len x0).2
      obtain ⟨s1, _⟩ := prof_size h0
      have hxn : ∃ y t, v.1 = y :: t := by
        cases h : v.1 with
        | nil => have := (rk_len x0).1; rw [h] at this; simp at this; omega
        | cons y t => exact ⟨y, t, rfl⟩
      have HX := hide hx
      have HC : Hid (∀ w', Ext wr w' → Calls Try.prog 150 #[.slice a' v.1.length c', .slice a2 ax.length c2] w' fun e w'' => e = .returned (.bool (pkO ax v.1)) ∧ Ext w' w'') := fun w' hw' => by
        obtain ⟨y, t, e⟩ := hxn
        have h1 := hRx.ext hw'
        rw [e] at h1 hc' hxl ⊢
        simp only [List.length_cons] at hxl
        exact pk_spec w' a' a2 c' c2 y t ax h1 hc' (by omega) (hR2.ext (hwx.trans hw')) lax5
      clear hx x0 hxn
      have e0 := new0 wr (.slice a' v.1.length c') [.int .i64 v.2] 88
      cases hp : pkO ax v.1
      all_goals rw [hp] at HC
      · go_wp2_with (go_at_call 150; refine (HC.out _ (by repeat (first | exact Ext.refl _ | assumption | refine Ext.alloc ?_ _ | refine Ext.drew ?_ | refine Ext.trans ?_ (by assumption)))).mono ?_; rintro e w1 ⟨rfl, hw1⟩; have e0 := Ext.keep (w' := w1) (by repeat (first | exact Ext.refl _ | assumption | refine Ext.alloc ?_ _ | refine Ext.drew ?_ | refine Ext.trans ?_ (by assumption))) e0)
        go_ret
        exact ⟨ret_bool (by rw [HPB.out]; exact (all_false HX.out hp).symm), hwx.trans (by repeat (first | exact Ext.refl _ | assumption | refine Ext.alloc ?_ _ | refine Ext.drew ?_ | refine Ext.trans ?_ (by assumption)))⟩
      · go_wp2_with (go_at_call 150; refine (HC.out _ (by repeat (first | exact Ext.refl _ | assumption | refine Ext.alloc ?_ _ | refine Ext.drew ?_ | refine Ext.trans ?_ (by assumption)))).mono ?_; rintro e w1 ⟨rfl, hw1⟩; have e0 := Ext.keep (w' := w1) (by repeat (first | exact Ext.refl _ | assumption | refine Ext.alloc ?_ _ | refine Ext.drew ?_ | refine Ext.trans ?_ (by assumption))) e0)
        exact ⟨⟨k + 1, by omega, by go_num, (all_take HX.out hall.out).trans hp, (by repeat (first | exact Ext.refl _ | assumption | refine Ext.alloc ?_ _ | refine Ext.drew ?_ | refine Ext.trans ?_ (by assumption)))⟩, by simp [intOf]; omega⟩
    · go_wp2
      go_ret
      exact ⟨ret_bool (by rw [HPB.out]; exact (all_whole (by omega) hall.out).symm), hwx⟩

set_option maxRecDepth 100000 in
set_option maxHeartbeats 1000000 in
theorem pkOne (w : World) (sz : Int) (gx : Nat) (a2 : Option Addr) (c2 : Nat) (ax : List Int) (a' : Option Addr) (c' : Nat) (x : Vt) (hRx : RdI w a' x.1) (hc' : x.1.length ≤ c') (hR2 : RdI w a2 ax) (hc2 : ax.length ≤ c2)
    (h0 : w.cell? ⟨gx, 0, none⟩ = some (.slice a2 ax.length c2)) (hx : rkOk sz x.1 = true) (ha : rkOk sz ax = true) (h1 : 1 ≤ sz) :
    Calls Try.prog 122 #[.agg #[.slice a' x.1.length c', .int .i64 x.2], .pointer (some ⟨gx, 0, none⟩)] w fun e w' => e = .returned (.bool (!pkO ax x.1)) ∧ Ext w w' := by
  obtain ⟨n, rfl⟩ := Int.eq_ofNat_of_zero_le (show 0 ≤ sz by omega)
  have e0 := new0 w (.slice a' x.1.length c') [.int .i64 x.2] 88
  go_enter Try.func122, Try.ntmps122
  go_wp2_with (go_at_call 123; refine (pk_impl _ _ _ _ _ n _ _ (hRx.ext (by repeat (first | exact Ext.refl _ | assumption | refine Ext.alloc ?_ _ | refine Ext.drew ?_ | refine Ext.trans ?_ (by assumption)))) hc' (hR2.ext (by repeat (first | exact Ext.refl _ | assumption | refine Ext.alloc ?_ _ | refine Ext.drew ?_ | refine Ext.trans ?_ (by assumption)))) hc2 hx ha).mono ?_; rintro e w1 ⟨rfl, hw1⟩)
  go_ret
  exact ⟨rfl, (by repeat (first | exact Ext.refl _ | assumption | refine Ext.alloc ?_ _ | refine Ext.drew ?_ | refine Ext.trans ?_ (by assumption)))⟩

set_option maxRecDepth 100000 in
set_option maxHeartbeats 2000000 in
theorem pkp_impl (w : World) (sz : Int) (a a2 : Option Addr) (c c2 : Nat) (vs : List Vt) (ax : List Int) (hR : RdV w a vs) (hR2 : RdI w a2 ax) (hc2 : ax.length ≤ c2) :
    Calls Try.prog 73 #[.agg #[.int .i64 sz, .slice a vs.length c], .slice a2 ax.length c2] w fun e w' => e = .returned (.bool (pkpB sz ax vs)) ∧ Ext w w' := by
  have q0 := new0 w (.int .i64 sz) [.slice a vs.length c] 30
  have q1 := new1 w (.int .i64 sz) (.slice a vs.length c) [] 30
  have p0 := new0 (w.alloc (.cells #[.int .i64 sz, .slice a vs.length c] 30)) (.slice a2 ax.length c2) [] 37
  rw [show (w.alloc (.cells #[.int .i64 sz, .slice a vs.length c] 30)).heap.size = w.heap.size + 1 by simp] at p0
  cases h0 : profOk sz vs
  · go_enter Try.func73, Try.ntmps73
    go_wp2_with (go_at_call 55; refine (prof_impl _ _ _ _ _ (hR.ext (by repeat (first | exact Ext.refl _ | assumption | refine Ext.alloc ?_ _ | refine Ext.drew ?_ | refine Ext.trans ?_ (by assumption))))).mono ?_; rintro e w1 ⟨rfl, hw1⟩; have q0 := Ext.keep (w' := w1) (by repeat (first | exact Ext.refl _ | assumption | refine Ext.alloc ?_ _ | refine Ext.drew ?_ | refine Ext.trans ?_ (by assumption))) q0; have q1 := Ext.keep (w' := w1) (by repeat (first | exact Ext.refl _ | assumption | refine Ext.alloc ?_ _ | refine Ext.drew ?_ | refine Ext.trans ?_ (by assumption))) q1; have p0 := Ext.keep (w' := w1) (by repeat (first | exact Ext.refl _ | assumption | refine Ext.alloc ?_ _ | refine Ext.drew ?_ | refine Ext.trans ?_ (by assumption))) p0)
    go_ret
    exact ⟨ret_bool (by simp [pkpB, h0]), (by repeat (first | exact Ext.refl _ | assumption | refine Ext.alloc ?_ _ | refine Ext.drew ?_ | refine Ext.trans ?_ (by assumption)))⟩
  cases h1 : rkOk sz ax
  · go_enter Try.func73, Try.ntmps73
    go_wp2_with (first | (go_at_call 55; refine (prof_impl _ _ _ _ _ (hR.ext (by repeat (first | exact Ext.refl _ | assumption | refine Ext.alloc ?_ _ | refine Ext.drew ?_ | refine Ext.trans ?_ (by assumption))))).mono ?_; rintro e w1 ⟨rfl, hw1⟩; have q0 := Ext.keep (w' := w1) (by repeat (first | exact Ext.refl _ | assumption | refine Ext.alloc ?_ _ | refine Ext.drew ?_ | refine Ext.trans ?_ (by assumption))) q0; have q1 := Ext.keep (w' := w1) (by repeat (first | exact Ext.refl _ | assumption | refine Ext.alloc ?_ _ | refine Ext.drew ?_ | refine Ext.trans ?_ (by assumption))) q1; have p0 := Ext.keep (w' := w1) (by repeat (first | exact Ext.refl _ | assumption | refine Ext.alloc ?_ _ | refine Ext.drew ?_ | refine Ext.trans ?_ (by assumption))) p0) | (go_at_call 113; refine (rank_impl _ _ _ _ _ (hR2.ext (by repeat (first | exact Ext.refl _ | assumption | refine Ext.alloc ?_ _ | refine Ext.drew ?_ | refine Ext.trans ?_ (by assumption)))) hc2).mono ?_; rintro e w1 ⟨rfl, hw1⟩; have q0 := Ext.keep (w' := w1) (by repeat (first | exact Ext.refl _ | assumption | refine Ext.alloc ?_ _ | refine Ext.drew ?_ | refine Ext.trans ?_ (by assumption))) q0; have q1 := Ext.keep (w' := w1) (by repeat (first | exact Ext.refl _ | assumption | refine Ext.alloc ?_ _ | refine Ext.drew ?_ | refine Ext.trans ?_ (by assumption))) q1; have p0 := Ext.keep (w' := w1) (by repeat (first | exact Ext.refl _ | assumption | refine Ext.alloc ?_ _ | refine Ext.drew ?_ | refine Ext.trans ?_ (by assumption))) p0))
    go_ret
    exact ⟨ret_bool (by simp [pkpB, h1]), (by repeat (first | exact Ext.refl _ | assumption | refine Ext.alloc ?_ _ | refine Ext.drew ?_ | refine Ext.trans ?_ (by assumption)))⟩
  have HS := hide (prof_small h0)
  have hvl := (prof_small h0).1
  obtain ⟨s1, _⟩ := prof_size h0
  have hpb : pkpB sz ax vs = vs.all (fun x => pkO ax x.1) := by simp [pkpB, h0, h1]
  have HPB := hide hpb
  clear hpb
  obtain ⟨gx, hgx⟩ : ∃ gx : Nat, gx = w.heap.size + 1 := ⟨_, rfl⟩
  have HC := hide (fun (w1 : World) (hw1 : Ext w w1) (h2 : w1.cell? ⟨gx, 0, none⟩ = some (.slice a2 ax.length c2)) =>
      containsFuncV 122 #[] #[.pointer (some ⟨gx, 0, none⟩)] (fun x => !pkO ax x.1) w1 a c vs (hR.ext hw1) (by omega) (fun _ _ => Try.call122 _ _)
        (fun x a' c' w' hx hw' hRx hc' => pkOne w' sz gx a2 c2 ax a' c' x hRx hc' (hR2.ext (hw1.trans hw')) hc2 (hw'.keep h2) (HS.out.2 x hx).1 h1 s1))
  rw [hgx] at HC
  clear hgx
  go_enter Try.func73, Try.ntmps73
  go_wp2_with (first | (go_at_call 55; refine (prof_impl _ _ _ _ _ (hR.ext (by repeat (first | exact Ext.refl _ | assumption | refine Ext.alloc ?_ _ | refine Ext.drew ?_ | refine Ext.trans ?_ (by assumption))))).mono ?_; rintro e w1 ⟨rfl, hw1⟩; have q0 := Ext.keep (w' := w1) (by repeat (first | exact Ext.refl _ | assumption | refine Ext.alloc ?_ _ | refine Ext.drew ?_ | refine Ext.trans ?_ (by assumption))) q0; have q1 := Ext.keep (w' := w1) (by repeat (first | exact Ext.refl _ | assumption | refine Ext.alloc ?_ _ | refine Ext.drew ?_ | refine Ext.trans ?_ (by assumption))) q1; have p0 := Ext.keep (w' := w1) (by repeat (first | exact Ext.refl _ | assumption | refine Ext.alloc ?_ _ | refine Ext.drew ?_ | refine Ext.trans ?_ (by assumption))) p0) | (go_at_call 113; refine (rank_impl _ _ _ _ _ (hR2.ext (by repeat (first | exact Ext.refl _ | assumption | refine Ext.alloc ?_ _ | refine Ext.drew ?_ | refine Ext.trans ?_ (by assumption)))) hc2).mono ?_; rintro e w1 ⟨rfl, hw1⟩; have q0 := Ext.keep (w' := w1) (by repeat (first | exact Ext.refl _ | assumption | refine Ext.alloc ?_ _ | refine Ext.drew ?_ | refine Ext.trans ?_ (by assumption))) q0; have q1 := Ext.keep (w' := w1) (by repeat (first | exact Ext.refl _ | assumption | refine Ext.alloc ?_ _ | refine Ext.drew ?_ | refine Ext.trans ?_ (by assumption))) q1; have p0 := Ext.keep (w' := w1) (by repeat (first | exact Ext.refl _ | assumption | refine Ext.alloc ?_ _ | refine Ext.drew ?_ | refine Ext.trans ?_ (by assumption))) p0))
  refine (HC.out _ (by repeat (first | exact Ext.refl _ | assumption | refine Ext.alloc ?_ _ | refine Ext.drew ?_ | refine Ext.trans ?_ (by assumption))) p0).mono ?_
  rintro e w2 ⟨rfl, hw2⟩
  go_wp2
  go_ret
  exact ⟨ret_bool (by rw [HPB.out, any_not]; simp), (by repeat (first | exact Ext.refl _ | assumption | refine Ext.alloc ?_ _ | refine Ext.drew ?_ | refine Ext.trans ?_ (by assumption)))⟩

end Go.Proofs.Ytpicmaggkginkaa
