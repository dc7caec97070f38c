/- The ranking by scores, of the program. -/
import Derived.Test.YtagepfgncbgncaaSrk
import Derived.Test.YtagepfgncbgncaaStb
import Derived.Lib.BufferMore
namespace Go.Proofs.Ytagepfgncbgncaa
open Go.RowKit

set_option maxRecDepth 100000 in
set_option maxHeartbeats 1000000 in
theorem srkOne (w : World) (gs n : Nat) (av : Option Addr) (cv : Nat) (sc : Nat → Int) (i j : Nat) (hg : w.cell? ⟨gs, 0, none⟩ = some (.slice av n cv)) (hR : RdI w av (rowL n sc)) (hi : i < n) (hj : j < n)
    (h1 : -10000000 ≤ sc i ∧ sc i ≤ 10000000) (h2 : -10000000 ≤ sc j ∧ sc j ≤ 10000000) :
    Calls Try.prog 146 (#[] ++ (#[.int .i64 (i : Int), .int .i64 (j : Int)] ++ #[.pointer (some ⟨gs, 0, none⟩)])) w fun e w' => e = .returned (.int .i64 (sc j - sc i)) ∧ Ext w w' := by
  obtain ⟨b, off, rfl, c0⟩ := hR.at_ (rowL_at (f := sc) hi)
  obtain ⟨b2, off2, hb, c1⟩ := hR.at_ (rowL_at (f := sc) hj)
  injection hb with hb
  injection hb with hb hb2
  subst hb
  subst hb2
  have y1 : wrap64 (sc j - sc i) = sc j - sc i := IntWalk.wrap64_in _ (by omega)
  have y2 : IntKind.i64.wrap (sc j - sc i) = sc j - sc i := IntWalk.i64_in _ (by omega)
  show Calls Try.prog 146 #[.int .i64 (i : Int), .int .i64 (j : Int), .pointer (some ⟨gs, 0, none⟩)] w _
  go_enter Try.func146, Try.ntmps146
  go_wp2
  refine wp_region_X (by kernel_rfl) (by kernel_rfl) ?_
  repeat' (refine wpX_stepQ (fun K hK => ?_)
           go_simp
           try (rw [if_neg (by intro h; simp [undef] at h)])
           try split
           all_goals
             first
             | (refine hK _ ?_
                clear hK K)
             | (apply Exists.intro
                refine ⟨fun wq hwq => ?_, hK _ ?_⟩
                · have hcq := hwq.cellS
                  go_simp
                  first
                  | exact ⟨Ext.refl _, rfl⟩
                clear hK K))
  refine wpX_nil (fun wz hwz => ?_)
  go_wp2
  go_ret
  exact ⟨rfl, hwz⟩

set_option maxRecDepth 100000 in
set_option maxHeartbeats 4000000 in
theorem srk_impl (w : World) (sz : Int) (a aw : Option Addr) (c cw : Nat) (vs : List Vt) (f : Nat → Int) (n : Nat) (hz : sz = n) (hR : RdV w a vs) (hW : RdI w aw (rowL n f)) (hf : GoodW f) (h0 : profOk sz vs = true) :
    Calls Try.prog 89 #[.agg #[.int .i64 sz, .slice a vs.length c], .slice aw n cw] w fun e w' => ∃ v, e = .returned v ∧ WrI w' w.heap.size v (srk (scoV f vs) n) ∧ Ext w w' := by
  subst hz
  obtain ⟨m, hm, n1, n2⟩ := prof_nat h0
  have hnm : n = m := by omega
  rw [← hnm] at n1 n2
  clear hm hnm m
  have HF := hide hf
  have hbd : ∀ j, -10000000 ≤ scoV f vs j ∧ scoV f vs j ≤ 10000000 := fun j => by
    have hS := prof_small h0
    have h := scoV_bd hS hf j vs.length (Nat.le_refl _)
    rw [List.take_length] at h
    have := hS.1
    omega
  have HBD := hide hbd
  clear hf hbd
  have q0 := new0 w (.int .i64 n) [.slice a vs.length c] 43
  have q1 := new1 w (.int .i64 n) (.slice a vs.length c) [] 43
  have hnil : ∀ (W : World) (a : Addr) (n c : Nat), (binOp .eql 50 (.slice (some a) n c) (.slice none 0 0)).run Try.prog W = .ok (.bool false) W := fun W a n c => Lib.run_eql_slice_some_nil W a n c Try.underlying50
  go_enter Try.func89, Try.ntmps89
  go_wp2_with fail
  refine (sco_impl _ _ a aw c cw vs f n rfl (hR.ext (by repeat (first | exact Ext.refl _ | assumption | refine Ext.alloc ?_ _ | refine Ext.drew ?_ | refine Ext.trans ?_ (by assumption)))) (hW.ext (by repeat (first | exact Ext.refl _ | assumption | refine Ext.alloc ?_ _ | refine Ext.drew ?_ | refine Ext.trans ?_ (by assumption)))) HF.out h0).mono ?_
  rintro e w1 ⟨v, rfl, hv, hw1⟩
  have q0 := hw1.keep q0
  have q1 := hw1.keep q1
  obtain ⟨av, cv, rfl, hcv, hRs, hju⟩ := hv.fr
  clear hju
  rw [rowL_len] at hcv hv ⊢
  obtain ⟨b0, off0, rfl, hc0⟩ := hRs.at_ (rowL_at (f := scoV f vs) (show 0 < n by omega))
  have hE1 : Ext w w1 := (Ext.new _ _).trans hw1
  have r0 := new0 w1 (.slice (some ⟨b0, off0, none⟩) n cv) [] 50
  have hE2 := Ext.new w1 (.cells #[.slice (some ⟨b0, off0, none⟩) n cv] 50)
  have q0 := hE2.keep q0
  have q1 := hE2.keep q1
  go_wp2_with fail
  refine (indices_impl _ n n2).mono ?_
  rintro e w2 ⟨rfl, hB, hw2⟩
  have hE3 : Ext w w2 := hE1.trans (hE2.trans hw2)
  have r0 := hw2.keep r0
  have hRs2 := (hRs.ext hE2).ext hw2
  have hG : (w1.alloc (.cells #[.slice (some ⟨b0, off0, none⟩) n cv] 50)).heap.size = w1.heap.size + 1 := by simp
  have hws := hE1.size
  have hb0 : b0 < w1.heap.size := World.block_lt_of_cell? w1 _ hc0
  rw [hG] at hB
  clear hG hE2 hw2 hRs hv q0 q1 hc0
  have hBm : BlkF w2 (w1.heap.size + 1) n (memF (Value.int .i64) (iotaL n)) := hB.congr (fun o ho => (memF_at (val := Value.int .i64) (rowL_at (f := fun j => (j : Int)) ho)).symm)
  have hl : (iotaL n).length = n := rowL_len _ _
  have HS := hide (stab_impl 146 #[] #[.pointer (some ⟨w1.heap.size, 0, none⟩)] (keyS (scoV f vs)) (fun x y => scoV f vs y.toNat - scoV f vs x.toNat) w2 (w1.heap.size + 1) n n (iotaL n) hl (by omega) hBm Try.call146
    (fun x y => by unfold keyS; omega)
    (fun x y w' hx hy hO => by
      obtain ⟨i, hi⟩ := List.mem_iff_getElem?.1 hx
      obtain ⟨hi1, rfl⟩ := rowL_val hi
      obtain ⟨j, hj⟩ := List.mem_iff_getElem?.1 hy
      obtain ⟨hj1, rfl⟩ := rowL_val hj
      simp only [Int.toNat_natCast]
      exact srkOne w' w1.heap.size n (some ⟨b0, off0, none⟩) cv (scoV f vs) i j (hO.keep (by show w1.heap.size ≠ w1.heap.size + 1; omega) r0) (hO.rdI hRs2 (fun b off h => by injection h with h; injection h with h; omega)) hi1 hj1 (HBD.out i) (HBD.out j)))
  clear hB hBm r0 hRs2 hnil
  go_wp2_with fail
  refine HS.out.mono ?_
  rintro e w3 ⟨rfl, hB3, hO3⟩
  go_wp2
  go_ret
  refine ⟨_, rfl, hB3.wrI (by rw [srk_len]) (fun j x hx => memF_at hx) (by omega) (Nat.le_refl _), Only.ext hE3 hO3 (by omega)⟩

end Go.Proofs.Ytagepfgncbgncaa
