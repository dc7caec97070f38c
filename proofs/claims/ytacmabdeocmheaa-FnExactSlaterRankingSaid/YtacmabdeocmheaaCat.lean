/- slices.Concat of two lists of integers. -/
import Derived.Test.YtacmabdeocmheaaAppG
import Derived.Lib.AppendZeros
namespace Go.Proofs.Ytacmabdeocmheaa
open Go.RowKit

set_option maxRecDepth 100000 in
theorem zeros_own {P : Program} (w : World) (t tn ty e : TypeId) (i : TypeInfo) (z : Value) (size bytes : Nat) (kn : IntKind) (ht : P.underlying t = some (.slice e)) (htn : P.underlying tn = some (.int kn)) (hi : P.info? e = some i) (hz : i.zero = some z)
    (hsize : i.size = size) (hby : i.bytes = bytes) (hzs : z.cells.size = size) (hsz : 0 < size) (n : Nat) (h0 : 0 < n) (hn : n ≤ 2000000) (hb : bytes ≤ 1000) :
    ∃ c w', (Builtin.append_ #[t, tn] ty #[.slice none 0 0, .int .i64 n]).run P w = .ok (.slice (some ⟨w.heap.size, 0, none⟩) n c) w' ∧ w'.ownsRow w.heap.size e size (.slice (some ⟨w.heap.size, 0, none⟩) 0 c) 0 [] ∧ Ext w w' ∧ 0 < c := by
  subst hsize
  subst hby
  have hbb : n * i.bytes ≤ 2000000 * 1000 := Nat.mul_le_mul hn hb
  have hr := Lib.run_append_nil_zeros (P := P) w t tn ty e i z .i64 kn ht htn hi hz n h0 hsz (by omega) (by omega)
  have hge := grownCap_ge w n 0 e
  refine ⟨_, _, hr, ?_, (Ext.refl w).drew.alloc _, by omega⟩
  have hs : (Builtin.zeroCells z.cells n ++ Builtin.zeroCells z.cells (grownCap w n 0 e - n)).size = grownCap w n 0 e * i.size := by
    rw [Array.size_append, size_zeroCells, size_zeroCells, hzs, ← Nat.add_mul]
    congr 1; omega
  exact World.ownsRow_made (base := w.heap.size) w.drew _ _ (Nat.le_refl _) (grownCap_le_maxLen w n 0 e (by unfold maxLen; omega)) hs

set_option maxRecDepth 100000 in
set_option maxHeartbeats 1000000 in
theorem grow_impl (w : World) (n : Nat) (hn : n ≤ 2000000) :
    Calls Try.prog 276 #[.slice none 0 0, .int .i64 n] w fun e w' => ∃ v, e = .returned v ∧ OwnI w' w.heap.size v [] ∧ Ext w w' := by
  obtain ⟨i0, hi, hz0, hz1, hz2⟩ := info_parts info_int
  by_cases h0 : n = 0
  · subst h0
    go_enter Try.func276, Try.ntmps276
    go_wp2
    go_ret
    exact ⟨_, rfl, OwnI.nil _ _, Ext.refl _⟩
  · obtain ⟨c, w', hr, hO, hE, hc⟩ := zeros_own (P := Try.prog) w 50 3 50 3 i0 (.int .i64 0) 1 8 .i64 Try.underlying50 Try.underlying3 hi hz0 hz1 hz2 rfl (by decide) n (by omega) hn (by decide)
    have hc0 : c ≠ 0 := by omega
    have hn0 : (0 : Int) < n := by omega
    have HR := hide hr
    clear hr
    go_enter Try.func276, Try.ntmps276
    go_wp2_with (at_builtin; refine Lib.wpList_append_run _ rfl _ _ _ _ rfl _ _ rfl rfl _ _ HR.out ?_)
    go_ret
    exact ⟨_, rfl, hO, hE⟩

set_option maxRecDepth 100000 in
set_option maxHeartbeats 4000000 in
theorem cat_impl (w : World) (g : Nat) (a1 a2 : Option Addr) (c1 c2 : Nat) (xs ys : List Int) (c0 : w.cell? ⟨g, 0, none⟩ = some (.slice a1 xs.length c1)) (c1' : w.cell? ⟨g, 1, none⟩ = some (.slice a2 ys.length c2))
    (hR1 : RdI w a1 xs) (hR2 : RdI w a2 ys) (hl : xs.length + ys.length ≤ 1000) :
    Calls Try.prog 269 #[.slice (some ⟨g, 0, none⟩) 2 2] w fun e w' => ∃ v, e = .returned v ∧ OwnI w' w.heap.size v (xs ++ ys) ∧ Ext w w' := by
  have h1 := c0
  have h2 := c1'
  have y1 : wrap64 (0 + (xs.length : Int)) = (xs.length : Int) := by rw [IntWalk.wrap64_in _ (by omega)]; omega
  have y2 : wrap64 ((xs.length : Int) + (ys.length : Int)) = (xs.length : Int) + (ys.length : Int) := IntWalk.wrap64_in _ (by omega)
  have z1 : ¬ ((xs.length : Int) < 0) := by omega
  have z2 : ¬ ((xs.length : Int) + (ys.length : Int) < 0) := by omega
  go_enter Try.func269, Try.ntmps269
  go_wp2_with fail
  go_loopw [3, 5, 11] (fun s _ i wr => ((i = .int .i64 0 ∧ s = .int .i64 0) ∨ (i = .int .i64 1 ∧ s = .int .i64 xs.length) ∨ (i = .int .i64 2 ∧ s = .int .i64 ((xs.length : Int) + (ys.length : Int)))) ∧ wr = w) (fun _ _ i _ => 2 - (intOf i).toNat)
  case atStart => exact ⟨.inl ⟨rfl, rfl⟩, rfl⟩
  case round =>
    obtain ⟨⟨rfl, rfl⟩ | ⟨rfl, rfl⟩ | ⟨rfl, rfl⟩, rfl⟩ := hrel
    · go_wp2
      exact ⟨⟨.inr (.inl ⟨rfl, rfl⟩), trivial⟩, by simp [intOf]⟩
    · go_wp2
      exact ⟨⟨.inr (.inr ⟨rfl, rfl⟩), trivial⟩, by simp [intOf]⟩
    · obtain ⟨wo, hwo⟩ : ∃ wo : World, wo = wr := ⟨_, rfl⟩
      subst hwo
      have hg := grow_impl wo (xs.length + ys.length) (by omega)
      rw [Int.natCast_add] at hg
      have HG := hide hg
      clear hg
      go_wp2_with fail
      refine HG.out.mono ?_
      rintro e w1 ⟨v, rfl, hO, hw1⟩
      have h1 := hw1.keep h1
      have h2 := hw1.keep h2
      go_wp2_with fail
      go_loopw [6, 8, 27] (fun v _ i wq => ((i = .int .i64 0 ∧ OwnI wq wo.heap.size v []) ∨ (i = .int .i64 1 ∧ OwnI wq wo.heap.size v xs) ∨ (i = .int .i64 2 ∧ OwnI wq wo.heap.size v (xs ++ ys))) ∧ Ext wo wq ∧ wq.cell? ⟨g, 0, none⟩ = some (.slice a1 xs.length c1) ∧ wq.cell? ⟨g, 1, none⟩ = some (.slice a2 ys.length c2)) (fun _ _ i _ => 2 - (intOf i).toNat)
      case atStart => exact ⟨.inl ⟨rfl, hO⟩, hw1, h1, h2⟩
      case round =>
        clear hO hw1 h1 h2
        obtain ⟨⟨rfl, hO⟩ | ⟨rfl, hO⟩ | ⟨rfl, hO⟩, hw, h1, h2⟩ := hrel
        · go_wp2_with (at_builtin; go_loud (refine wpList_appG wo.heap.size _ rfl _ _ rfl _ [] xs rfl (by exact hO) hw.size a1 xs.length c1 rfl rfl (hR1.ext hw) (by simp; omega) ?_); intro v1 w2 hO1 hg1 _)
          have hE := Ext.grown hw hg1 (ownsRow_block hO)
          exact ⟨⟨.inr (.inl ⟨rfl, hO1⟩), hE, hE.keep c0, hE.keep c1'⟩, by simp [intOf]⟩
        · go_wp2_with (at_builtin; go_loud (refine wpList_appG wo.heap.size _ rfl _ _ rfl _ xs ys rfl (by exact hO) hw.size a2 ys.length c2 rfl rfl (hR2.ext hw) (by omega) ?_); intro v1 w2 hO1 hg1 _)
          have hE := Ext.grown hw hg1 (ownsRow_block hO)
          exact ⟨⟨.inr (.inr ⟨rfl, hO1⟩), hE, hE.keep c0, hE.keep c1'⟩, by simp [intOf]⟩
        · go_wp2
          go_ret
          exact ⟨_, rfl, hO, hw⟩

end Go.Proofs.Ytacmabdeocmheaa
