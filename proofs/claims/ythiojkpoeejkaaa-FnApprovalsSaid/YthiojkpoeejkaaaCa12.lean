/- CommitteeScore of both sides. -/
import Derived.Test.YthiojkpoeejkaaaCa11
namespace Go.Proofs.Ythiojkpoeejkaaa
open Go.RowKit

def comT (sz : Int) (bs : List (Int × Int)) (set : Int) : Int := if appOk sz bs && inR set 0 (topOf sz) then (frT (scoreOf bs set).toNat : Nat) else 0
def comB (sz : Int) (bs : List (Int × Int)) (set : Int) : Int := if appOk sz bs && inR set 0 (topOf sz) then (frB (scoreOf bs set).toNat : Nat) else 0
def comV (sz : Int) (bs : List (Int × Int)) (set : Int) : Value := .tuple #[.agg #[.int .i64 (comT sz bs set), .int .i64 (comB sz bs set)], .bool (appOk sz bs && inR set 0 (topOf sz))]
set_option maxRecDepth 100000 in
theorem small_ok {sz : Int} {bs : List (Int × Int)} (h : appOk sz bs = true) : Small bs := ⟨ok_len h, fun x hx => by have := ok_at h hx; omega⟩

set_option maxRecDepth 100000 in
set_option maxHeartbeats 2000000 in
theorem com_impl (w : World) (sz set : Int) (a : Option Addr) (c : Nat) (bs : List (Int × Int)) (hR : RdP w a bs) :
    Calls Try.prog 19 #[.agg #[.int .i64 sz, .slice a bs.length c], .int .i64 set] w fun e w' => e = .returned (comV sz bs set) ∧ Ext w w' := by
  have q0 := new0 w (.int .i64 sz) [.slice a bs.length c] 25
  have q1 := new1 w (.int .i64 sz) (.slice a bs.length c) [] 25
  have hs1 : (w.alloc (.cells #[.int .i64 sz, .slice a bs.length c] 25)).heap.size = w.heap.size + 1 := by simp
  have hE1 := Ext.new w (.cells #[.int .i64 sz, .slice a bs.length c] 25)
  have p0 := BlkF.new (w.alloc (.cells #[.int .i64 sz, .slice a bs.length c] 25)) #[.int .i64 0, .int .i64 0] 35
  rw [hs1] at p0
  have P0 := hide p0
  clear p0
  cases h1 : appOk sz bs
  · go_enter Try.func19, Try.ntmps19
    go_wp2_with fail
    refine (ok_impl _ _ _ _ _ (hR.ext (by repeat (first | exact Ext.refl _ | assumption | refine Ext.alloc ?_ _ | refine Ext.drew ?_ | refine Ext.trans ?_ (by assumption))))).mono ?_
    rintro e w1 ⟨rfl, hw1⟩
    have p1 := P0.out.ext hw1
    have r0 := p1.cell 0 (by simp)
    have r1 := p1.cell 1 (by simp)
    have z0 := p1.fr 0
    have z1 := p1.fr 1
    have hw : Ext w w1 := (by repeat (first | exact Ext.refl _ | assumption | refine Ext.alloc ?_ _ | refine Ext.drew ?_ | refine Ext.trans ?_ (by assumption)))
    have hws : w.heap.size ≤ w.heap.size + 1 := by omega
    rw [h1]
    go_wp2
    refine bodyPost_ret (v := .tuple #[.agg #[.int .i64 0, .int .i64 0], .bool false]) (by simp [results, Try.results19, go_sem, r0, r1]) rfl ⟨?_, Ext.setCell (Ext.setCell hw hws _) hws _⟩
    simp [comV, comT, comB, h1]
  · obtain ⟨hlo, hhi⟩ := ok_size h1
    have htop := top_wrap64 hlo hhi
    have ht := top_le hlo hhi
    cases h2 : inR set 0 (topOf sz)
    · go_enter Try.func19, Try.ntmps19
      go_wp2_with (go_at_call 16; refine (ok_impl _ _ _ _ _ (hR.ext (by repeat (first | exact Ext.refl _ | assumption | refine Ext.alloc ?_ _ | refine Ext.drew ?_ | refine Ext.trans ?_ (by assumption))))).mono ?_; rintro e w1 ⟨rfl, hw1⟩; have q0 := Ext.keep (w' := w1) (by repeat (first | exact Ext.refl _ | assumption | refine Ext.alloc ?_ _ | refine Ext.drew ?_ | refine Ext.trans ?_ (by assumption))) q0; have q1 := Ext.keep (w' := w1) (by repeat (first | exact Ext.refl _ | assumption | refine Ext.alloc ?_ _ | refine Ext.drew ?_ | refine Ext.trans ?_ (by assumption))) q1)
      have p0 := P0.out.ext hw1
      refine (has_impl _ _ _ _ hlo hhi).mono ?_
      rintro e w2 ⟨rfl, hw2⟩
      have p1 := p0.ext hw2
      have r0 := p1.cell 0 (by simp)
      have r1 := p1.cell 1 (by simp)
      have z0 := p1.fr 0
      have z1 := p1.fr 1
      have hw : Ext w w2 := (by repeat (first | exact Ext.refl _ | assumption | refine Ext.alloc ?_ _ | refine Ext.drew ?_ | refine Ext.trans ?_ (by assumption)))
      have hws : w.heap.size ≤ w.heap.size + 1 := by omega
      rw [h2]
      go_wp2
      refine bodyPost_ret (v := .tuple #[.agg #[.int .i64 0, .int .i64 0], .bool false]) (by simp [results, Try.results19, go_sem, r0, r1]) rfl ⟨?_, Ext.setCell (Ext.setCell hw hws _) hws _⟩
      simp [comV, comT, comB, h1, h2]
    obtain ⟨s0, s1⟩ := inR_iff.1 h2
    have hsm := small_ok h1
    have hb := score_bd hsm set bs.length (Nat.le_refl _)
    rw [List.take_length] at hb
    have hb2 : 0 ≤ scoreOf bs set ∧ scoreOf bs set ≤ 360000 * bs.length := hb
    have hbl := hsm.1
    obtain ⟨s, hs⟩ : ∃ s : Nat, (s : Int) = scoreOf bs set := ⟨(scoreOf bs set).toNat, by omega⟩
    have HSM := hide hsm
    have HV : Hid (comV sz bs set = .tuple #[.agg #[.int .i64 (frT s : Nat), .int .i64 (frB s : Nat)], .bool true]) := hide (by
      have : (scoreOf bs set).toNat = s := by omega
      simp [comV, comT, comB, h1, h2, this])
    have hsb : s ≤ 5000000 := by omega
    have s63 : set ≤ 63 := by omega
    clear hb hb2 hsm
    go_enter Try.func19, Try.ntmps19
    go_wp2_with (go_at_call 16; refine (ok_impl _ _ _ _ _ (hR.ext (by repeat (first | exact Ext.refl _ | assumption | refine Ext.alloc ?_ _ | refine Ext.drew ?_ | refine Ext.trans ?_ (by assumption))))).mono ?_; rintro e w1 ⟨rfl, hw1⟩; have q0 := Ext.keep (w' := w1) (by repeat (first | exact Ext.refl _ | assumption | refine Ext.alloc ?_ _ | refine Ext.drew ?_ | refine Ext.trans ?_ (by assumption))) q0; have q1 := Ext.keep (w' := w1) (by repeat (first | exact Ext.refl _ | assumption | refine Ext.alloc ?_ _ | refine Ext.drew ?_ | refine Ext.trans ?_ (by assumption))) q1)
    have p0 := P0.out.ext hw1
    refine (has_impl _ _ _ _ hlo hhi).mono ?_
    rintro e w2 ⟨rfl, hw2⟩
    have p0 := p0.ext hw2
    have q0 := hw2.keep q0
    have q1 := hw2.keep q1
    have hw : Ext w w2 := (by repeat (first | exact Ext.refl _ | assumption | refine Ext.alloc ?_ _ | refine Ext.drew ?_ | refine Ext.trans ?_ (by assumption)))
    go_wp2_with fail
    refine (score_impl _ _ _ _ _ _ (hR.ext hw) HSM.out s0 s63).mono ?_
    rintro e w3 ⟨rfl, hw3⟩
    have p0 := p0.ext hw3
    rw [← hs]
    clear hs
    go_wp2_with fail
    refine (red_impl _ s hsb).mono ?_
    rintro e w4 ⟨rfl, hw4⟩
    have p1 := p0.ext hw4
    have r0 := p1.cell 0 (by simp)
    have r1 := p1.cell 1 (by simp)
    have z0 := p1.fr 0
    have z1 := p1.fr 1
    have hw := (hw.trans hw3).trans hw4
    have hws : w.heap.size ≤ w.heap.size + 1 := by omega
    go_wp2
    rw [HV.out]
    refine bodyPost_ret (v := .tuple #[.agg #[.int .i64 (frT s : Nat), .int .i64 (frB s : Nat)], .bool true]) (by simp [results, Try.results19, go_sem, r0, r1]) rfl ⟨rfl, Ext.setCell (Ext.setCell hw hws _) hws _⟩

end Go.Proofs.Ythiojkpoeejkaaa
