/- Profiles compared whole, and overwritten by marks. -/
import Derived.Test.YtacmabdeocmheaaLawP
import Derived.Test.YtacmabdeocmheaaWr
namespace Go.Proofs.Ytacmabdeocmheaa
open Go.RowKit

set_option maxRecDepth 100000 in
theorem eqIs (w : World) (a1 a2 : Option Addr) (c1 c2 : Nat) (xs : List Int) (hX : RdI w a1 xs) (hY : RdI w a2 xs) (hl : xs.length ≤ 2000000) :
    Calls Try.prog 30 #[.slice a1 xs.length c1, .slice a2 xs.length c2] w fun e w' => e = .returned (.bool true) ∧ Ext w w' :=
  (eqIS w a1 a2 c1 c2 xs xs hX hY hl).mono fun _ _ ⟨he, hw⟩ => ⟨by rw [he]; simp, hw⟩

set_option maxRecDepth 100000 in
set_option maxHeartbeats 1000000 in
theorem eqV1 (w : World) (a1 a2 : Option Addr) (c1 c2 : Nat) (xs : List Int) (x : Int) (hX : RdI w a1 xs) (hY : RdI w a2 xs) (hl : xs.length ≤ 2000000) :
    Calls Try.prog 231 #[.agg #[.slice a1 xs.length c1, .int .i64 x], .agg #[.slice a2 xs.length c2, .int .i64 x]] w fun e w' => e = .returned (.bool true) ∧ Ext w w' := by
  have q1 := new1 w (.slice a1 xs.length c1) (.int .i64 x) [] 138
  have q2 := (Ext.new (w.alloc (.cells #[.slice a1 xs.length c1, .int .i64 x] 138)) (.cells #[.slice a2 xs.length c2, .int .i64 x] 138)).keep q1
  have q3 := new1 (w.alloc (.cells #[.slice a1 xs.length c1, .int .i64 x] 138)) (.slice a2 xs.length c2) (.int .i64 x) [] 138
  clear q1
  rw [show (w.alloc (.cells #[.slice a1 xs.length c1, .int .i64 x] 138)).heap.size = w.heap.size + 1 by simp] at q3
  go_enter Try.func231, Try.ntmps231
  go_wp2_with (go_at_call 30; refine (eqIs _ _ _ _ _ _ (hX.ext (by repeat (first | exact Ext.refl _ | assumption | refine Ext.alloc ?_ _ | refine Ext.drew ?_ | refine Ext.trans ?_ (by assumption)))) (hY.ext (by repeat (first | exact Ext.refl _ | assumption | refine Ext.alloc ?_ _ | refine Ext.drew ?_ | refine Ext.trans ?_ (by assumption)))) hl).mono ?_; rintro e w1 ⟨rfl, hw1⟩; have q2 := Ext.keep (w' := w1) (by repeat (first | exact Ext.refl _ | assumption | refine Ext.alloc ?_ _ | refine Ext.drew ?_ | refine Ext.trans ?_ (by assumption))) q2; have q3 := Ext.keep (w' := w1) (by repeat (first | exact Ext.refl _ | assumption | refine Ext.alloc ?_ _ | refine Ext.drew ?_ | refine Ext.trans ?_ (by assumption))) q3)
  go_ret
  exact ⟨rfl, (by repeat (first | exact Ext.refl _ | assumption | refine Ext.alloc ?_ _ | refine Ext.drew ?_ | refine Ext.trans ?_ (by assumption)))⟩

set_option maxRecDepth 100000 in
set_option maxHeartbeats 2000000 in
theorem eqVS (w : World) (a1 a2 : Option Addr) (c1 c2 : Nat) (vs : List Vt) (hX : RdV w a1 vs) (hY : RdV w a2 vs) (hl : vs.length ≤ 2000000) (hm : ∀ x ∈ vs, x.1.length ≤ 2000000) :
    Calls Try.prog 130 #[.slice a1 vs.length c1, .slice a2 vs.length c2] w fun e w' => e = .returned (.bool true) ∧ Ext w w' := by
  have HM := hide hm
  clear hm
  go_enter Try.func130, Try.ntmps130
  go_wp2_with fail
  go_loopw [5] (fun i wr => ∃ k : Nat, k ≤ vs.length ∧ i = .int .i64 k ∧ Ext w wr) (fun i _ => vs.length - (intOf i).toNat)
  case atStart => exact ⟨0, Nat.zero_le _, rfl, Ext.refl _⟩
  case round =>
    obtain ⟨k, hk, rfl, hwr⟩ := hrel
    by_cases hlt : k < vs.length
    · obtain ⟨x, hx⟩ := at_of_lt hlt
      obtain ⟨b, off, a', c', rfl, c0, c1, hc', hRx⟩ := (hX.ext hwr).at_ hx
      obtain ⟨b', off', a'', c'', rfl, d0, d1, hd', hRy⟩ := (hY.ext hwr).at_ hx
      have hxl := HM.out x (List.mem_of_getElem? hx)
      clear hx
      go_wp2
      refine wp_region_X (by kernel_rfl) (by kernel_rfl) ?_
      repeat' (refine wpX_stepQ (fun K hK => ?_)
               go_simp
               try (rw [if_neg (by intro h; simp [undef] at h)])
               try split
               all_goals
                 first
                 | (refine hK _ ?_
                    clear hK K)
                 | (apply Exists.intro
                    refine ⟨fun wq hwq => ?_, hK _ ?_⟩
                    · have hcq := hwq.cellS
                      go_simp
                      first
                      | exact ⟨Ext.refl _, rfl⟩
                      | exact ⟨Ext.refl _, eqV1 _ _ _ _ _ _ _ (hRx.ext (by repeat (first | exact Ext.refl _ | assumption | refine Ext.alloc ?_ _ | refine Ext.drew ?_ | refine Ext.trans ?_ (by assumption)))) (hRy.ext (by repeat (first | exact Ext.refl _ | assumption | refine Ext.alloc ?_ _ | refine Ext.drew ?_ | refine Ext.trans ?_ (by assumption)))) hxl⟩
                    clear hK K))
      refine wpX_nil (fun wz hwz => ?_)
      go_wp2
      exact ⟨⟨k + 1, by omega, by go_num, hwr.trans hwz⟩, by simp [intOf]; omega⟩
    · go_wp2
      go_ret
      exact ⟨rfl, hwr⟩

set_option maxRecDepth 100000 in
set_option maxHeartbeats 1000000 in
theorem eqP (w : World) (s : Int) (a1 a2 : Option Addr) (c1 c2 : Nat) (vs : List Vt) (hX : RdV w a1 vs) (hY : RdV w a2 vs) (hl : vs.length ≤ 2000000) (hm : ∀ x ∈ vs, x.1.length ≤ 2000000) :
    Calls Try.prog 25 #[.agg #[.int .i64 s, .slice a1 vs.length c1], .agg #[.int .i64 s, .slice a2 vs.length c2]] w fun e w' => e = .returned (.bool true) ∧ Ext w w' := by
  go_enter Try.func25, Try.ntmps25
  go_wp2_with (go_at_call 130; refine (eqVS _ _ _ _ _ _ (hX.ext (by repeat (first | exact Ext.refl _ | assumption | refine Ext.alloc ?_ _ | refine Ext.drew ?_ | refine Ext.trans ?_ (by assumption)))) (hY.ext (by repeat (first | exact Ext.refl _ | assumption | refine Ext.alloc ?_ _ | refine Ext.drew ?_ | refine Ext.trans ?_ (by assumption)))) hl hm).mono ?_; rintro e w1 ⟨rfl, hw1⟩; have hc1 := hw1.cellS; have hf1 := hw1.frozenS)
  go_ret
  exact ⟨rfl, (by repeat (first | exact Ext.refl _ | assumption | refine Ext.alloc ?_ _ | refine Ext.drew ?_ | refine Ext.trans ?_ (by assumption)))⟩

/-- What is left of a copy whose first k votes have been overwritten. -/
def MkV (w : World) (lo hi : Nat) (g : Nat) (vs : List Vt) (k : Nat) : Prop := ∃ (f : Nat → Value) (h : Nat → Nat), lo ≤ g ∧ g < hi ∧ BlkF w g (vs.length * 2) f ∧
  ∀ j x, k ≤ j → vs[j]? = some x → f (j * 2) = .slice (some ⟨h j, 0, none⟩) x.1.length x.1.length ∧ g < h j ∧ h j < hi ∧
    (∀ i, k ≤ i → i < j → h i < h j) ∧ ∃ fi, BlkF w (h j) x.1.length fi
set_option maxRecDepth 100000 in
theorem OwnV.mk {w : World} {lo hi g : Nat} {vs : List Vt} (h : OwnV w lo hi g vs vs.length) : MkV w lo hi g vs 0 := by
  obtain ⟨f, h, h1, h2, hB, hj⟩ := h
  refine ⟨f, h, h1, h2, hB, fun j x _ hx => ?_⟩
  obtain ⟨a0, a1, a2, a3, a4, fi, a5, a6⟩ := hj j x (lt_of_at hx) hx
  exact ⟨a0, a2, a3, fun i _ hi => a4 i hi, fi, a5⟩
set_option maxRecDepth 100000 in
theorem MkV.ext {w w' : World} {lo hi g k : Nat} {vs : List Vt} (h : MkV w lo hi g vs k) (hw : Ext w w') : MkV w' lo hi g vs k := by
  obtain ⟨f, h, h1, h2, hB, hj⟩ := h
  refine ⟨f, h, h1, h2, hB.ext hw, fun j x hk hx => ?_⟩
  obtain ⟨a0, a2, a3, a4, fi, a5⟩ := hj j x hk hx
  exact ⟨a0, a2, a3, a4, fi, a5.ext hw⟩
set_option maxRecDepth 100000 in
theorem MkV.at_ {w : World} {lo hi g k : Nat} {vs : List Vt} {x : Vt} (h : MkV w lo hi g vs k) (hx : vs[k]? = some x) :
    ∃ gk fi v, w.cell? ⟨g, k * 2, none⟩ = some (.slice (some ⟨gk, 0, none⟩) x.1.length x.1.length) ∧ w.cell? ⟨g, k * 2 + 1, none⟩ = some v ∧ (∀ o, w.frozen? ⟨g, o, none⟩ = false) ∧ lo ≤ gk ∧ gk < hi ∧ BlkF w gk x.1.length fi ∧
      ∀ w', Only gk w w' → (∀ o, w'.frozen? ⟨g, o, none⟩ = false) ∧ w'.cell? ⟨g, k * 2 + 1, none⟩ = some v ∧ ∀ u, MkV (w'.setCell ⟨g, k * 2 + 1, none⟩ u) lo hi g vs (k + 1) := by
  obtain ⟨f, h, h1, h2, hB, hj⟩ := h
  have hl := lt_of_at hx
  obtain ⟨a0, a2, a3, a4, fi, a5⟩ := hj k x (Nat.le_refl _) hx
  refine ⟨h k, fi, _, ?_, hB.cell _ (by omega), hB.fr, by omega, a3, a5, fun w' hw => ?_⟩
  · rw [hB.cell _ (by omega), a0]
  · have hB' := hw.blk hB (by omega)
    refine ⟨hB'.fr, hB'.cell _ (by omega), fun u => ⟨_, h, h1, h2, hB'.set _ (by omega) u, fun j y hk hy => ?_⟩⟩
    obtain ⟨b0, b2, b3, b4, fj, b5⟩ := hj j y (by omega) hy
    have := b4 k (Nat.le_refl _) (by omega)
    refine ⟨?_, b2, b3, fun i h3 h4 => b4 i (by omega) h4, fj, (hw.blk b5 (by omega)).far (by simp; omega) _⟩
    rw [if_neg (by omega)]; exact b0

set_option maxRecDepth 100000 in
set_option maxHeartbeats 1000000 in
theorem markIW (w : World) (g n c : Nat) (f : Nat → Value) (k0 : Int) (hB : BlkF w g n f) (hn : n ≤ 2000000) (h0 : 0 ≤ k0) (h1 : k0 ≤ 4000000000000) :
    Calls Try.prog 31 #[.slice (some ⟨g, 0, none⟩) n c, .int .i64 k0] w fun e w' => e = .returned (.int .i64 (k0 + n)) ∧ Only g w w' ∧ BlkF w' g n (fun j => .int .i64 (k0 + j)) := by
  go_enter Try.func31, Try.ntmps31
  go_wp2
  go_loopw [1, 5] (fun m i wr => ∃ (k : Nat) (f : Nat → Value), k ≤ n ∧ i = .int .i64 k ∧ m = .int .i64 (k0 + k) ∧ BlkF wr g n f ∧ (∀ j, j < k → f j = .int .i64 (k0 + j)) ∧ Only g w wr) (fun _ i _ => n - (intOf i).toNat)
  case atStart => exact ⟨0, f, Nat.zero_le _, rfl, by go_num, hB, fun j hj => absurd hj (by omega), Only.refl _ _⟩
  case round =>
    obtain ⟨k, f1, hk, rfl, rfl, hB1, hf, hO⟩ := hrel
    have HF := hide hf
    clear hf
    by_cases hlt : k < n
    · have d0 := hB1.cell k hlt
      have z0 := hB1.fr k
      go_wp2
      refine ⟨⟨k + 1, _, by omega, by go_num, by go_num, hB1.set k hlt _, fun j hj => ?_, hO.setCell _ _⟩, by simp [intOf]; omega⟩
      by_cases e : j = k
      · subst e; rw [if_pos rfl]
      · rw [if_neg e]; exact HF.out j (by omega)
    · obtain rfl : k = n := by omega
      go_wp2
      go_ret
      exact ⟨rfl, hO, hB1.lt, hB1.fr, fun o ho => by rw [hB1.cell o ho, HF.out o ho]⟩

set_option maxRecDepth 100000 in
set_option maxHeartbeats 2000000 in
theorem markVS (w : World) (lo hi g c : Nat) (vs : List Vt) (k0 : Int) (hO : MkV w lo hi g vs 0) (hl : vs.length ≤ 1048576) (hm : ∀ x ∈ vs, x.1.length ≤ 1048576) (h0 : 0 ≤ k0) (h1 : k0 ≤ 1000000) :
    Calls Try.prog 131 #[.slice (some ⟨g, 0, none⟩) vs.length c, .int .i64 k0] w fun e w' => ∃ m : Int, e = .returned (.int .i64 m) ∧ 0 ≤ m ∧ Rng lo hi w w' := by
  have HM := hide hm
  clear hm
  have HO := hide hO
  have hgl : lo ≤ g ∧ g < hi := by obtain ⟨f, h, h1, h2, _⟩ := hO; exact ⟨h1, h2⟩
  clear hO
  go_enter Try.func131, Try.ntmps131
  go_wp2_with fail
  go_loopw [1, 5] (fun m i wr => ∃ (k : Nat) (cur : Int), k ≤ vs.length ∧ i = .int .i64 k ∧ m = .int .i64 cur ∧ 0 ≤ cur ∧ cur ≤ k0 + k * 1048577 ∧ Hid (MkV wr lo hi g vs k) ∧ Rng lo hi w wr) (fun _ i _ => vs.length - (intOf i).toNat)
  case atStart => exact ⟨0, _, Nat.zero_le _, rfl, rfl, h0, by omega, HO, Rng.of_ext (Ext.refl _)⟩
  case round =>
    obtain ⟨k, cur, hk, rfl, rfl, b0, b1, hB, hwr⟩ := hrel
    by_cases hlt : k < vs.length
    · obtain ⟨x, hx⟩ := at_of_lt hlt
      have hxl := HM.out x (List.mem_of_getElem? hx)
      obtain ⟨gk, fi, v, c0, c1, z0, l0, l1, hBk, hnx⟩ := hB.out.at_ hx
      have z1 := z0 (k * 2 + 1)
      have HX := hide hx
      clear hx
      have HN := hide hnx
      clear hnx
      clear z0
      go_wp2_with fail
      refine (markIW _ gk x.1.length _ fi cur hBk (by omega) b0 (by omega)).mono ?_
      rintro e w1 ⟨rfl, hw1, hB1⟩
      obtain ⟨y0, y1, y2⟩ := HN.out w1 hw1
      have y3 := y0 (k * 2 + 1)
      have HY := hide y2
      clear y0 y2
      go_wp2
      exact ⟨⟨k + 1, _, by omega, by go_num, rfl, by omega, by omega, HY.out _, (hwr.trans (Rng.of_only hw1 l0 l1)).trans (Rng.of_only ((Only.refl g w1).setCell _ _) hgl.1 hgl.2)⟩, by simp [intOf]; omega⟩
    · go_wp2
      go_ret
      exact ⟨_, rfl, b0, hwr⟩

set_option maxRecDepth 100000 in
set_option maxHeartbeats 1000000 in
theorem markP (w : World) (sz : Int) (lo hi g c : Nat) (vs : List Vt) (hO : OwnV w lo hi g vs vs.length) (hl : vs.length ≤ 1048576) (hm : ∀ x ∈ vs, x.1.length ≤ 1048576) :
    Calls Try.prog 26 #[.agg #[.int .i64 sz, .slice (some ⟨g, 0, none⟩) vs.length c], .int .i64 1] w fun e w' => ∃ m : Int, e = .returned (.int .i64 m) ∧ 0 ≤ m ∧ Rng lo hi w w' := by
  go_enter Try.func26, Try.ntmps26
  go_wp2_with fail
  refine (markVS _ lo hi g c vs 1 (hO.mk.ext (by repeat (first | exact Ext.refl _ | assumption | refine Ext.alloc ?_ _ | refine Ext.drew ?_ | refine Ext.trans ?_ (by assumption)))) hl hm (by decide) (by decide)).mono ?_
  rintro e w1 ⟨m, rfl, hm, hw1⟩
  go_wp2
  go_ret
  exact ⟨_, rfl, hm, (Rng.of_ext (Ext.new _ _)).trans hw1⟩

end Go.Proofs.Ytacmabdeocmheaa
