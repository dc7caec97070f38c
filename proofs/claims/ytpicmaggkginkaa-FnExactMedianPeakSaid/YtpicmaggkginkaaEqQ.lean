/- Profiles overwritten by marks, with a bound on the marks. -/
import Derived.Test.YtpicmaggkginkaaLawQ
namespace Go.Proofs.Ytpicmaggkginkaa
open Go.RowKit

set_option maxRecDepth 100000 in
set_option maxHeartbeats 2000000 in
theorem markVSb (w : World) (lo hi g c : Nat) (vs : List Vt) (k0 : Int) (hO : MkV w lo hi g vs 0) (hl : vs.length ≤ 1048576) (hm : ∀ x ∈ vs, x.1.length ≤ 1048576) (h0 : 0 ≤ k0) (h1 : k0 ≤ 1000000) :
    Calls Try.prog 59 #[.slice (some ⟨g, 0, none⟩) vs.length c, .int .i64 k0] w fun e w' => ∃ m : Int, e = .returned (.int .i64 m) ∧ (0 ≤ m ∧ m ≤ 2000000000000) ∧ Rng lo hi w w' := by
  have HM := hide hm
  clear hm
  have HO := hide hO
  have hgl : lo ≤ g ∧ g < hi := by obtain ⟨f, h, h1, h2, _⟩ := hO; exact ⟨h1, h2⟩
  clear hO
  go_enter Try.func59, Try.ntmps59
  go_wp2_with fail
  go_loopw [1, 5] (fun m i wr => ∃ (k : Nat) (cur : Int), k ≤ vs.length ∧ i = .int .i64 k ∧ m = .int .i64 cur ∧ 0 ≤ cur ∧ cur ≤ k0 + k * 1048577 ∧ Hid (MkV wr lo hi g vs k) ∧ Rng lo hi w wr) (fun _ i _ => vs.length - (intOf i).toNat)
  case atStart => exact ⟨0, _, Nat.zero_le _, rfl, rfl, h0, by omega, HO, Rng.of_ext (Ext.refl _)⟩
  case round =>
    obtain ⟨k, cur, hk, rfl, rfl, b0, b1, hB, hwr⟩ := hrel
    by_cases hlt : k < vs.length
    · obtain ⟨x, hx⟩ := at_of_lt hlt
      have hxl := HM.out x (List.mem_of_getElem? hx)
      obtain ⟨gk, fi, v, c0, c1, z0, l0, l1, hBk, hnx⟩ := hB.out.at_ hx
      have z1 := z0 (k * 2 + 1)
      have HX := hide hx
      clear hx
      have HN := hide hnx
      clear hnx
      clear z0
      go_wp2_with fail
      refine (markIW _ gk x.1.length _ fi cur hBk (by omega) b0 (by omega)).mono ?_
      rintro e w1 ⟨rfl, hw1, hB1⟩
      obtain ⟨y0, y1, y2⟩ := HN.out w1 hw1
      have y3 := y0 (k * 2 + 1)
      have HY := hide y2
      clear y0 y2
      go_wp2
      exact ⟨⟨k + 1, _, by omega, by go_num, rfl, by omega, by omega, HY.out _, (hwr.trans (Rng.of_only hw1 l0 l1)).trans (Rng.of_only ((Only.refl g w1).setCell _ _) hgl.1 hgl.2)⟩, by simp [intOf]; omega⟩
    · go_wp2
      go_ret
      exact ⟨_, rfl, ⟨b0, by omega⟩, hwr⟩

set_option maxRecDepth 100000 in
set_option maxHeartbeats 1000000 in
theorem markPb_mk (w : World) (sz : Int) (lo hi : Nat) (a : Option Addr) (c : Nat) (vs : List Vt) (h : MkP w lo hi a vs) (hl : vs.length ≤ 1048576) (hm : ∀ x ∈ vs, x.1.length ≤ 1048576) :
    Calls Try.prog 21 #[.agg #[.int .i64 sz, .slice a vs.length c], .int .i64 1] w fun e w' => ∃ m : Int, e = .returned (.int .i64 m) ∧ (0 ≤ m ∧ m ≤ 2000000000000) ∧ Rng lo hi w w' := by
  obtain ⟨g, rfl, hO⟩ := h
  go_enter Try.func21, Try.ntmps21
  go_wp2_with fail
  refine (markVSb _ lo hi g c vs 1 (hO.mk.ext (by repeat (first | exact Ext.refl _ | assumption | refine Ext.alloc ?_ _ | refine Ext.drew ?_ | refine Ext.trans ?_ (by assumption)))) hl hm (by decide) (by decide)).mono ?_
  rintro e w1 ⟨m, rfl, hm, hw1⟩
  go_wp2
  go_ret
  exact ⟨_, rfl, hm, (Rng.of_ext (Ext.new _ _)).trans hw1⟩

set_option maxRecDepth 100000 in
theorem toI_rd (w : World) (a : Option Addr) (c : Nat) (xs : List Int) (hR : RdI w a xs) (hl : xs.length ≤ 1048576) :
    Calls Try.prog 34 #[.slice a xs.length c] w fun e w' => ∃ g f, e = .returned (.slice (some ⟨g, 0, none⟩) xs.length xs.length) ∧ w.heap.size ≤ g ∧ BlkF w' g xs.length f ∧ RdI w' (some ⟨g, 0, none⟩) xs ∧ Ext w w' := by
  refine (toIS w a c xs hR hl).mono ?_
  rintro e w' ⟨g, f, he, hg, hB, hf, hw⟩
  exact ⟨g, f, he, hg, hB, hB.rdI (Nat.le_refl _) hf, hw⟩

end Go.Proofs.Ytpicmaggkginkaa
