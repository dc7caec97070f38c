/- Strengths of paths on both sides. Schulze's winners. All orders of a list: the two ways of naming them answer alike (plain law). Pairs of a list in which something holds for the later and the earlier one, counted in two ways (plain law). -/
import Derived.Test.YthiojkpoeejkaaaCp12
import Derived.Test.YthiojkpoeejkaaaCp6
import Derived.Test.YthiojkpoeejkaaaCp7
namespace Go.Proofs.Ythiojkpoeejkaaa
open Go.RowKit

set_option maxRecDepth 100000 in
theorem Mat.form {w : World} {B g n : Nat} {us : Nat → Value} {rows : Nat → List Int} (h : Mat w B g n us rows) {i : Nat} (hi : i < n) (hne : 1 ≤ (rows i).length) : ∃ b c, us i = .slice (some ⟨b, 0, none⟩) (rows i).length c := by
  obtain ⟨x, hx⟩ := at_of_lt (xs := rows i) (k := 0) hne
  obtain ⟨b, c, hv, _⟩ := h.cell hi hx
  exact ⟨b, c, hv⟩
set_option maxRecDepth 100000 in
theorem Mat.read {w : World} {B g n b m c : Nat} {us : Nat → Value} {rows : Nat → List Int} (h : Mat w B g n us rows) {i j : Nat} {x : Int} (hi : i < n) (hx : (rows i)[j]? = some x) (hu : us i = .slice (some ⟨b, 0, none⟩) m c) :
    w.cell? ⟨b, j, none⟩ = some (.int .i64 x) ∧ w.frozen? ⟨b, j, none⟩ = false ∧ B ≤ b := by
  obtain ⟨b', c', hv, _, hB, h1, h2, _⟩ := h.cell hi hx
  rw [hu] at hv
  injection hv with hv
  injection hv with hv
  injection hv with hv
  subst hv
  exact ⟨h1, h2, hB⟩
set_option maxRecDepth 100000 in
theorem Mat.three {w : World} {B g n : Nat} {us : Nat → Value} {M : Nat → Nat → Int} (h : Mat w B g n us (fun o => rowL n (M o))) {a b k : Nat} (ha : a < n) (hb : b < n) (hk : k < n) :
    ∃ ba ca bk ck, w.cell? ⟨g, a, none⟩ = some (.slice (some ⟨ba, 0, none⟩) n ca) ∧ w.cell? ⟨g, k, none⟩ = some (.slice (some ⟨bk, 0, none⟩) n ck) ∧ w.cell? ⟨ba, b, none⟩ = some (.int .i64 (M a b)) ∧ w.cell? ⟨ba, k, none⟩ = some (.int .i64 (M a k)) ∧
      w.cell? ⟨bk, b, none⟩ = some (.int .i64 (M k b)) ∧ w.frozen? ⟨ba, b, none⟩ = false ∧ B ≤ ba ∧
      ∀ (w' : World) (y : Int), Ext w w' → a ≠ b → y = max (M a b) (min (M a k) (M k b)) → Mat (w'.setCell ⟨ba, b, none⟩ (.int .i64 y)) B g n us (fun o => rowL n (fw1 M k a b o)) := by
  obtain ⟨ba, ca, hua⟩ := h.form ha (by rw [rowL_len]; omega)
  obtain ⟨bk, ck, huk⟩ := h.form hk (by rw [rowL_len]; omega)
  rw [rowL_len] at hua huk
  obtain ⟨h1, h2, h3⟩ := h.read ha (rowL_at (f := M a) hb) hua
  refine ⟨ba, ca, bk, ck, by rw [h.outer.cell a ha, hua], by rw [h.outer.cell k hk, huk], h1, (h.read ha (rowL_at (f := M a) hk) hua).1, (h.read hk (rowL_at (f := M k) hb) huk).1, h2, h3, fun w' y hw hne hy => ?_⟩
  subst hy
  exact ((h.ext hw).set ha (rowL_at (f := M a) hb) hua _).congr (fun o _ => fw1_row M hne o)

def fwP (vs : List Vt) (i m j : Nat) : Int := if j < m then fw0 vs i j else 0
set_option maxRecDepth 100000 in
theorem fwP_all {n : Nat} (vs : List Vt) (i : Nat) : rowL n (fwP vs i n) = rowL n (fw0 vs i) := rowL_congr (fun j hj => by unfold fwP; rw [if_pos hj])
set_option maxRecDepth 100000 in
theorem fwP_zero (vs : List Vt) (i : Nat) : fwP vs i 0 = fun _ => 0 := by funext j; unfold fwP; rw [if_neg (by omega)]
set_option maxRecDepth 100000 in
theorem fwP_next (vs : List Vt) (i m j : Nat) : fwP vs i (m + 1) j = if j = m then fw0 vs i m else fwP vs i m j := by
  unfold fwP
  by_cases e : j = m
  · subst e; rw [if_pos (by omega), if_pos rfl]
  · rw [if_neg e]
    by_cases h : j < m
    · rw [if_pos (by omega), if_pos h]
    · rw [if_neg (by omega), if_neg h]

def bldR (vs : List Vt) (n i m o : Nat) : List Int := if o < i then rowL n (fw0 vs o) else if o = i then rowL n (fwP vs i m) else []
def bldS (vs : List Vt) (n i o : Nat) : List Int := if o < i then rowL n (fw0 vs o) else []

set_option maxRecDepth 100000 in
set_option maxHeartbeats 8000000 in
theorem pth_impl (w : World) (sz : Int) (a : Option Addr) (c : Nat) (vs : List Vt) (hR : RdV w a vs) :
    Calls Try.prog 85 #[.agg #[.int .i64 sz, .slice a vs.length c]] w fun e w' => ∃ v, e = .returned v ∧ WrSS w' w.heap.size v (pthO sz vs) ∧ Ext w w' := by
  have q0 := new0 w (.int .i64 sz) [.slice a vs.length c] 47
  have q1 := new1 w (.int .i64 sz) (.slice a vs.length c) [] 47
  cases h0 : profOk sz vs
  · go_enter Try.func85, Try.ntmps85
    go_wp2_with (go_at_call 35; refine (prof_impl _ _ _ _ _ (hR.ext (by repeat (first | exact Ext.refl _ | assumption | refine Ext.alloc ?_ _ | refine Ext.drew ?_ | refine Ext.trans ?_ (by assumption))))).mono ?_; rintro e w1 ⟨rfl, hw1⟩; have q0 := Ext.keep (w' := w1) (by repeat (first | exact Ext.refl _ | assumption | refine Ext.alloc ?_ _ | refine Ext.drew ?_ | refine Ext.trans ?_ (by assumption))) q0; have q1 := Ext.keep (w' := w1) (by repeat (first | exact Ext.refl _ | assumption | refine Ext.alloc ?_ _ | refine Ext.drew ?_ | refine Ext.trans ?_ (by assumption))) q1)
    go_ret
    exact ⟨_, rfl, by simp [pthO, h0]; exact WrSS.nil _ _ _ _, (by repeat (first | exact Ext.refl _ | assumption | refine Ext.alloc ?_ _ | refine Ext.drew ?_ | refine Ext.trans ?_ (by assumption)))⟩
  obtain ⟨n, rfl, n1, n2⟩ := prof_nat h0
  have HS := hide (prof_small h0)
  obtain ⟨i0, hi, hz0, hz1, hz2⟩ := info_parts info_int
  have hmk := fun W => run_make_rowN (P := Try.prog) 29 3 i0 _ Try.underlying29 hi hz0 .i64 .i64 n n (Nat.le_refl _) (by rw [hz2]; omega) (by omega) W
  rw [hz1, Nat.mul_one] at hmk
  obtain ⟨j0, hj, hy0, hy1, hy2⟩ := info_parts info_row
  have hmk2 := fun W => run_make_rowN (P := Try.prog) 55 29 j0 _ Try.underlying55 hj hy0 .i64 .i64 n n (Nat.le_refl _) (by rw [hy2]; omega) (by omega) W
  rw [hy1, Nat.mul_one] at hmk2
  go_enter Try.func85, Try.ntmps85
  go_wp2_with (go_at_call 35; refine (prof_impl _ _ _ _ _ (hR.ext (by repeat (first | exact Ext.refl _ | assumption | refine Ext.alloc ?_ _ | refine Ext.drew ?_ | refine Ext.trans ?_ (by assumption))))).mono ?_; rintro e w1 ⟨rfl, hw1⟩; have q0 := Ext.keep (w' := w1) (by repeat (first | exact Ext.refl _ | assumption | refine Ext.alloc ?_ _ | refine Ext.drew ?_ | refine Ext.trans ?_ (by assumption))) q0; have q1 := Ext.keep (w' := w1) (by repeat (first | exact Ext.refl _ | assumption | refine Ext.alloc ?_ _ | refine Ext.drew ?_ | refine Ext.trans ?_ (by assumption))) q1)
  clear hmk2
  have hw : Ext w w1 := (by repeat (first | exact Ext.refl _ | assumption | refine Ext.alloc ?_ _ | refine Ext.drew ?_ | refine Ext.trans ?_ (by assumption)))
  have hR0 := hR.ext hw
  have hM := Mat.made w1 n
  have h20 := Ext.new w1 (.cells (madeCells #[.slice none 0 0] n) 29)
  generalize w1.alloc (.cells (madeCells #[.slice none 0 0] n) 29) = W0 at hM h20 ⊢
  obtain ⟨wb, hwb⟩ : ∃ wb : World, wb = w1 := ⟨_, rfl⟩
  subst hwb
  obtain ⟨g, hg⟩ : ∃ g : Nat, g = wb.heap.size := ⟨_, rfl⟩
  have hgg : wb.heap.size ≤ g := by omega
  rw [← hg] at hM ⊢
  have hM : Mat W0 wb.heap.size g n (fun _ => .slice none 0 0) (fun _ => []) := by rw [hg] at hM ⊢; exact hM
  clear hg
  go_loopw [4, 5, 17, 27, 28] (fun _ _ i _ _ wr => ∃ (k : Nat) (us : Nat → Value), k ≤ n ∧ i = .int .i64 k ∧ Hid (Mat wr wb.heap.size g n us (bldS vs n k)) ∧ Ext wb wr) (fun _ _ i _ _ _ => n - (intOf i).toNat)
  case atStart => exact ⟨0, _, Nat.zero_le _, rfl, hM.congr (fun o _ => by unfold bldS; rw [if_neg (by omega)]), h20⟩
  case round =>
    clear hM h20
    obtain ⟨i, us, hi, rfl, HM, hwr⟩ := hrel
    have r0 := hwr.keep q0
    by_cases hit : i < n
    · have hO := OwnI.made wr n (by omega)
      have hgl := HM.out.outer.lt
      have hM2 := HM.out.put (w' := wr.alloc (.cells (madeCells #[.int .i64 0] n) 3)) hit (World.grownBy_alloc wr _ none) (fun k h => by cases h) (hO.base (Nat.le_trans hgg (Nat.le_of_lt hgl))) (fun k hk => by
        simp only [Value.ownBlock, Option.some.injEq] at hk
        refine ⟨by omega, fun o ho _ e => ?_⟩
        have := (World.ownsRow.lt (HM.out.row o ho) k e).2
        omega)
      have hM3 := hM2.congr (rows' := bldR vs n i 0) (fun o ho => by
        unfold bldR bldS
        by_cases e : o = i
        · subst e; rw [if_pos rfl, if_neg (by omega), if_pos rfl, fwP_zero]
        · rw [if_neg e, if_neg e])
      have hE3 : Ext wb ((wr.alloc (.cells (madeCells #[.int .i64 0] n) 3)).setCell ⟨g, i, none⟩ (.slice (some ⟨wr.heap.size, 0, none⟩) n n)) := Ext.setCell (hwr.trans (Ext.new wr _)) hgg _
      rw [World.setCell_alloc_past _ _ _ _ hgl] at hM3 hE3
      have HM3 := hide hM3
      have r1 := hE3.keep q0
      have d0 := HM.out.outer.cell i hit
      have z0 := HM.out.outer.fr i
      clear hM2 hM3 hO HM
      go_wp2
      clear r1
      generalize (wr.setCell ⟨g, i, none⟩ (.slice (some ⟨wr.heap.size, 0, none⟩) n n)).alloc (.cells (madeCells #[.int .i64 0] n) 3) = W1 at HM3 hE3 ⊢
      generalize (fun o => if o = i then Value.slice (some ⟨wr.heap.size, 0, none⟩) n n else us o) = us1 at HM3
      clear d0 z0 hwr r0
      go_loopw [5, 28] (fun _ m wr => ∃ k : Nat, k ≤ n ∧ m = .int .i64 k ∧ Hid (Mat wr wb.heap.size g n us1 (bldR vs n i k)) ∧ Ext wb wr) (fun _ m _ => n - (intOf m).toNat)
      case atStart => exact ⟨0, Nat.zero_le _, rfl, HM3, hE3⟩
      case round =>
        clear HM3 hE3
        obtain ⟨m, hm, rfl, HM, hwr⟩ := hrel
        have r0 := hwr.keep q0
        have r1 := hwr.keep q1
        have hRr := hR0.ext hwr
        by_cases hlt : m < n
        · cases hb : beatsV vs i m
          · go_wp2_with (go_at_call 138; refine (beats_impl _ _ _ _ _ _ _ (hRr.ext (by repeat (first | exact Ext.refl _ | assumption | refine Ext.alloc ?_ _ | refine Ext.drew ?_ | refine Ext.trans ?_ (by assumption)))) HS.out).mono ?_; rintro e w1 ⟨rfl, hw1⟩)
            refine ⟨⟨m + 1, by omega, by go_num, ?_, (by repeat (first | exact Ext.refl _ | assumption | refine Ext.alloc ?_ _ | refine Ext.drew ?_ | refine Ext.trans ?_ (by assumption)))⟩, by simp [intOf]; omega⟩
            refine (HM.out.ext hw1).congr (fun o _ => ?_)
            unfold bldR
            by_cases e : o < i
            · rw [if_pos e, if_pos e]
            · rw [if_neg e, if_neg e]
              by_cases e2 : o = i
              · rw [if_pos e2, if_pos e2]
                refine rowL_congr (fun j _ => ?_)
                rw [fwP_next]
                by_cases e3 : j = m
                · rw [if_pos e3, e3]
                  have e1 : fw0 vs i m = 0 := by unfold fw0 bt; rw [hb]; rfl
                  have e4 : fwP vs i m m = 0 := by unfold fwP; rw [if_neg (Nat.lt_irrefl _)]
                  rw [e1, e4]
                · rw [if_neg e3]
              · rw [if_neg e2, if_neg e2]
          · have hri : bldR vs n i m i = rowL n (fwP vs i m) := by unfold bldR; rw [if_neg (by omega), if_pos rfl]
            obtain ⟨ba, ca, hua⟩ := HM.out.form hit (by rw [hri, rowL_len]; omega)
            rw [hri, rowL_len] at hua
            have hx := rowL_at (f := fwP vs i m) hlt
            rw [← hri] at hx
            obtain ⟨d1, z1, hbl⟩ := HM.out.read hit hx hua
            have d0 := HM.out.outer.cell i hit
            rw [hua] at d0
            have HX := hide hx
            have HU := hide hua
            have HRI := hide hri
            clear hx hua hri
            go_wp2_with (go_at_call 138; refine (beats_impl _ _ _ _ _ _ _ (hRr.ext (by repeat (first | exact Ext.refl _ | assumption | refine Ext.alloc ?_ _ | refine Ext.drew ?_ | refine Ext.trans ?_ (by assumption)))) HS.out).mono ?_; rintro e w1 ⟨rfl, hw1⟩; have r0 := Ext.keep (w' := w1) (by repeat (first | exact Ext.refl _ | assumption | refine Ext.alloc ?_ _ | refine Ext.drew ?_ | refine Ext.trans ?_ (by assumption))) r0; have r1 := Ext.keep (w' := w1) (by repeat (first | exact Ext.refl _ | assumption | refine Ext.alloc ?_ _ | refine Ext.drew ?_ | refine Ext.trans ?_ (by assumption))) r1; have d0 := Ext.keep (w' := w1) (by repeat (first | exact Ext.refl _ | assumption | refine Ext.alloc ?_ _ | refine Ext.drew ?_ | refine Ext.trans ?_ (by assumption))) d0; have d1 := Ext.keep (w' := w1) (by repeat (first | exact Ext.refl _ | assumption | refine Ext.alloc ?_ _ | refine Ext.drew ?_ | refine Ext.trans ?_ (by assumption))) d1)
            have z1 : w1.frozen? ⟨ba, m, none⟩ = false := (hw1.frozenS _ (by rw [(HM.out.read hit HX.out HU.out).1]; rfl)).trans z1
            have HMw := hide (HM.out.ext hw1)
            have hwr := hwr.trans hw1
            refine wp_region_X (by kernel_rfl) (by kernel_rfl) ?_
            repeat' (refine wpX_stepQ (fun K hK => ?_)
                     go_simp
                     try (rw [if_neg (by intro h; simp [undef] at h)])
                     try split
                     all_goals
                       first
                       | (refine hK _ ?_
                          clear hK K)
                       | (apply Exists.intro
                          refine ⟨fun wq hwq => ?_, hK _ ?_⟩
                          · have hcq := hwq.cellS
                            go_simp
                            first
                            | exact ⟨Ext.refl _, rfl⟩
                            | exact ⟨Ext.refl _, pairI_impl _ _ _ _ _ _ _ (hRr.ext (by repeat (first | exact Ext.refl _ | assumption | refine Ext.alloc ?_ _ | refine Ext.drew ?_ | refine Ext.trans ?_ (by assumption)))) HS.out⟩
                          clear hK K))
            refine wpX_stepL rfl (by kernel_rfl) (by kernel_rfl) (by kernel_rfl) (fun K hK wz hwz => ?_)
            have hcz := hwz.cellS
            have hfz := hwz.frozenS
            go_simp
            refine hK _ _ ?_
            clear hK K
            go_wp2
            refine ⟨⟨m + 1, by omega, by go_num, ?_, Ext.setCell (hwr.trans hwz) hbl _⟩, by simp [intOf]; omega⟩
            refine ((HMw.out.ext hwz).set hit HX.out HU.out (pairV vs i m)).congr (fun o _ => ?_)
            by_cases e2 : o = i
            · subst e2
              rw [if_pos rfl, HRI.out]
              unfold bldR
              rw [if_neg (by omega), if_pos rfl]
              refine rowL_set (fun j _ => ?_)
              rw [fwP_next]
              by_cases e3 : j = m
              · rw [if_pos e3, if_pos e3]; unfold fw0 bt; rw [hb]; rfl
              · rw [if_neg e3, if_neg e3]
            · rw [if_neg e2]
              unfold bldR
              by_cases e : o < i
              · rw [if_pos e, if_pos e]
              · rw [if_neg e, if_neg e, if_neg e2, if_neg e2]
        · have hmn : m = n := by omega
          rw [hmn] at HM
          go_wp2
          refine ⟨⟨i + 1, us1, by omega, by go_num, HM.out.congr (fun o _ => ?_), hwr⟩, by simp [intOf]; omega⟩
          unfold bldR bldS
          by_cases e : o < i
          · rw [if_pos e, if_pos (by omega)]
          · by_cases e2 : o = i
            · subst e2; rw [if_neg e, if_pos rfl, if_pos (by omega), fwP_all]
            · rw [if_neg e, if_neg e2, if_neg (by omega)]
    · have hin : i = n := by omega
      have hM := HM.out.congr (rows' := fun o => rowL n (fwK n (fw0 vs) 0 o)) (fun o ho => by unfold bldS; rw [if_pos (by omega)]; rfl)
      clear HM hin r0
      have HM := hide hM
      clear hM
      have r0 := hwr.keep q0
      go_wp2_with fail
      go_loopw [6, 7, 8, 49, 53, 54, 58, 59] (fun _ _ _ i _ _ _ _ wr => ∃ k : Nat, k ≤ n ∧ i = .int .i64 k ∧ Hid (Mat wr wb.heap.size g n us (fun o => rowL n (fwK n (fw0 vs) k o))) ∧ Ext wb wr) (fun _ _ _ i _ _ _ _ _ => n - (intOf i).toNat)
      case atStart => exact ⟨0, Nat.zero_le _, rfl, HM, hwr⟩
      case round =>
        clear HM hwr r0
        obtain ⟨k, hk, rfl, HM, hwr⟩ := hrel
        have r0 := hwr.keep q0
        by_cases hkt : k < n
        · go_wp2
          go_loopw [7, 8, 54, 58, 59] (fun _ _ i _ _ wr => ∃ x : Nat, x ≤ n ∧ i = .int .i64 x ∧ Hid (Mat wr wb.heap.size g n us (fun o => rowL n (fwA n (fwK n (fw0 vs) k) k x o))) ∧ Ext wb wr) (fun _ _ i _ _ _ => n - (intOf i).toNat)
          case atStart => exact ⟨0, Nat.zero_le _, rfl, HM, hwr⟩
          case round =>
            clear HM hwr r0
            obtain ⟨x, hx, rfl, HM, hwr⟩ := hrel
            have r0 := hwr.keep q0
            by_cases hxt : x < n
            · go_wp2
              go_loopw [8, 59] (fun _ i wr => ∃ y : Nat, y ≤ n ∧ i = .int .i64 y ∧ Hid (Mat wr wb.heap.size g n us (fun o => rowL n (fwB (fwA n (fwK n (fw0 vs) k) k x) k x y o))) ∧ Ext wb wr) (fun _ i _ => n - (intOf i).toNat)
              case atStart => exact ⟨0, Nat.zero_le _, rfl, HM, hwr⟩
              case round =>
                clear HM hwr r0
                obtain ⟨y, hy, rfl, HM, hwr⟩ := hrel
                by_cases hyt : y < n
                · obtain ⟨M, hM⟩ : ∃ M, M = fwB (fwA n (fwK n (fw0 vs) k) k x) k x y := ⟨_, rfl⟩
                  have HE := hide (show fwB (fwA n (fwK n (fw0 vs) k) k x) k x (y + 1) = fw1 M k x y by rw [hM]; rfl)
                  rw [← hM] at HM
                  clear hM
                  by_cases e : x = y
                  · have e' : (x : Int) = (y : Int) := by omega
                    go_wp2
                    refine ⟨⟨y + 1, by omega, by go_num, ?_, hwr⟩, by simp [intOf]; omega⟩
                    rw [HE.out, e, fw1_same]; exact HM
                  · have e' : ¬ (x : Int) = (y : Int) := by omega
                    obtain ⟨ba, ca, bk, ck, d0, d1, d2, d3, d4, z0, hbl, hnx⟩ := HM.out.three hxt hyt hkt
                    have HN := hide hnx
                    clear hnx
                    go_wp2
                    refine wp_region_X (by kernel_rfl) (by kernel_rfl) ?_
                    repeat' (refine wpX_stepQ (fun K hK => ?_)
                             go_simp
                             try (rw [if_neg (by intro h; simp [undef] at h)])
                             try split
                             all_goals
                               first
                               | (refine hK _ ?_
                                  clear hK K)
                               | (apply Exists.intro
                                  refine ⟨fun wq hwq => ?_, hK _ ?_⟩
                                  · have hcq := hwq.cellS
                                    go_simp
                                    first
                                    | exact ⟨Ext.refl _, rfl⟩
                                  clear hK K))
                    all_goals
                      refine wpX_stepL rfl (by kernel_rfl) (by kernel_rfl) (by kernel_rfl) (fun K hK wz hwz => ?_)
                      have hcz := hwz.cellS
                      have hfz := hwz.frozenS
                      go_simp
                      refine hK _ _ ?_
                      clear hK K
                      go_wp2
                      refine ⟨⟨y + 1, by omega, by go_num, by rw [HE.out]; exact HN.out wz _ (show Ext wr wz from (by repeat (first | exact Ext.refl _ | assumption | refine Ext.alloc ?_ _ | refine Ext.drew ?_ | refine Ext.trans ?_ (by assumption)))) e (by omega), Ext.setCell (hwr.trans (by repeat (first | exact Ext.refl _ | assumption | refine Ext.alloc ?_ _ | refine Ext.drew ?_ | refine Ext.trans ?_ (by assumption)))) hbl _⟩, by simp [intOf]; omega⟩
                · have hyn : y = n := by omega
                  rw [hyn] at HM
                  go_wp2
                  exact ⟨⟨x + 1, by omega, by go_num, HM, hwr⟩, by simp [intOf]; omega⟩
            · have hxn : x = n := by omega
              rw [hxn] at HM
              go_wp2
              exact ⟨⟨k + 1, by omega, by go_num, HM, hwr⟩, by simp [intOf]; omega⟩
        · have hkn : k = n := by omega
          rw [hkn] at HM
          go_wp2
          go_ret
          refine ⟨_, rfl, ?_, hw.trans hwr⟩
          have h2 := (HM.out.wr (c := n) (Nat.le_refl n)).base hw.size
          simpa [pthO, h0, tabL, pthV] using h2

def schP (n : Nat) (vs : List Vt) (i j : Nat) : Bool := decide (pthV n vs j i ≤ pthV n vs i j)
def schO (sz : Int) (vs : List Vt) : List Int := thoseO sz vs (schP sz.toNat vs)
set_option maxRecDepth 100000 in
theorem schO_len (sz : Int) (vs : List Vt) : (schO sz vs).length ≤ 5 := by
  unfold schO thoseO
  cases h0 : profOk sz vs
  · simp
  · obtain ⟨n, rfl, n1, n2⟩ := prof_nat h0
    have := upL_len n (thoseP n (schP n vs))
    simp; omega

set_option maxRecDepth 100000 in
theorem prof_of {n : Nat} {vs : List Vt} (n1 : 1 ≤ n) (n5 : n ≤ 5) (h : SmallV n vs) : profOk n vs = true := by
  unfold profOk
  rw [inR_iff.2 (show 1 ≤ (n : Int) ∧ (n : Int) ≤ 5 by omega), decide_eq_true h.1, Bool.true_and, Bool.true_and, List.all_eq_true]
  intro x hx
  obtain ⟨h1, h2, h3⟩ := h.2 x hx
  unfold vtOk
  rw [h1, inR_iff.2 ⟨h2, h3⟩]; rfl
set_option maxRecDepth 100000 in
/-- Two cells of a table that faces itself. -/
theorem WrSS.pair {w : World} {B : Nat} {a : Option Addr} {n c : Nat} {M : Nat → Nat → Int} (h : WrSS w B (.slice a n c) (tabL n M)) {i j : Nat} (hi : i < n) (hj : j < n) :
    ∃ g bi ci bj cj oi oj, a = some ⟨g, 0, none⟩ ∧ w.cell? ⟨g, i, none⟩ = some (.slice (some ⟨bi, oi, none⟩) n ci) ∧ w.cell? ⟨g, j, none⟩ = some (.slice (some ⟨bj, oj, none⟩) n cj) ∧
      w.cell? ⟨bi, oi + j, none⟩ = some (.int .i64 (M i j)) ∧ w.cell? ⟨bj, oj + i, none⟩ = some (.int .i64 (M j i)) := by
  obtain ⟨g, c1, ai, ci, e1, h1, _, r1⟩ := h.at_ (tabL_at (M := M) hi)
  obtain ⟨g2, c2, aj, cj, e2, h2, _, r2⟩ := h.at_ (tabL_at (M := M) hj)
  injection e1 with e1
  subst e1
  injection e2 with e2
  injection e2 with e2
  injection e2 with e2
  subst e2
  rw [rowL_len] at h1 h2
  obtain ⟨bi, oi, rfl, d1⟩ := r1.at_ (rowL_at (f := M i) hj)
  obtain ⟨bj, oj, rfl, d2⟩ := r2.at_ (rowL_at (f := M j) hi)
  exact ⟨g, bi, ci, bj, cj, oi, oj, rfl, h1, h2, d1, d2⟩

set_option maxRecDepth 100000 in
set_option maxHeartbeats 1000000 in
theorem schOne (w : World) (gs n i j : Nat) (vs : List Vt) (B : Nat) (a : Option Addr) (c : Nat) (h : WrSS w B (.slice a n c) (tabL n (pthV n vs))) (hg : w.cell? ⟨gs, 0, none⟩ = some (.slice a n c)) (hi : i < n) (hj : j < n) :
    Calls Try.prog 164 #[.int .i64 i, .int .i64 j, .pointer (some ⟨gs, 0, none⟩)] w fun e w' => e = .returned (.bool (schP n vs i j)) ∧ Ext w w' := by
  obtain ⟨g, bi, ci, bj, cj, oi, oj, rfl, h1, h2, d1, d2⟩ := h.pair hi hj
  clear h
  go_enter Try.func164, Try.ntmps164
  go_wp2
  refine wp_region_X (by kernel_rfl) (by kernel_rfl) ?_
  repeat' (refine wpX_stepQ (fun K hK => ?_)
           go_simp
           try (rw [if_neg (by intro h; simp [undef] at h)])
           try split
           all_goals
             first
             | (refine hK _ ?_
                clear hK K)
             | (apply Exists.intro
                refine ⟨fun wq hwq => ?_, hK _ ?_⟩
                · have hcq := hwq.cellS
                  go_simp
                  first
                  | exact ⟨Ext.refl _, rfl⟩
                clear hK K))
  refine wpX_nil (fun wz hwz => ?_)
  go_wp2
  go_ret
  exact ⟨ret_bool (by simp [schP]), (by repeat (first | exact Ext.refl _ | assumption | refine Ext.alloc ?_ _ | refine Ext.drew ?_ | refine Ext.trans ?_ (by assumption)))⟩

set_option maxRecDepth 100000 in
set_option maxHeartbeats 2000000 in
theorem sch_impl (w : World) (sz : Int) (a : Option Addr) (c : Nat) (vs : List Vt) (hR : RdV w a vs) :
    Calls Try.prog 77 #[.agg #[.int .i64 sz, .slice a vs.length c]] w fun e w' => ∃ v, e = .returned v ∧ OwnI w' w.heap.size v (schO sz vs) ∧ Ext w w' := by
  have q0 := new0 w (.int .i64 sz) [.slice a vs.length c] 47
  have q1 := new1 w (.int .i64 sz) (.slice a vs.length c) [] 47
  go_enter Try.func77, Try.ntmps77
  go_wp2_with fail
  refine (pth_impl _ sz a c vs (hR.ext (by repeat (first | exact Ext.refl _ | assumption | refine Ext.alloc ?_ _ | refine Ext.drew ?_ | refine Ext.trans ?_ (by assumption))))).mono ?_
  rintro e w1 ⟨v, rfl, hv, hw1⟩
  have q0 := Ext.keep (w' := w1) (by repeat (first | exact Ext.refl _ | assumption | refine Ext.alloc ?_ _ | refine Ext.drew ?_ | refine Ext.trans ?_ (by assumption))) q0
  have q1 := Ext.keep (w' := w1) (by repeat (first | exact Ext.refl _ | assumption | refine Ext.alloc ?_ _ | refine Ext.drew ?_ | refine Ext.trans ?_ (by assumption))) q1
  have hv0 := hv
  obtain ⟨av, cv, rfl, _, _⟩ := hv
  obtain ⟨L, hL⟩ : ∃ L : Nat, L = (pthO sz vs).length := ⟨_, rfl⟩
  rw [← hL] at hv0 ⊢
  have p0 := new0 w1 (.slice av L cv) [] 55
  have hE : Ext w (w1.alloc (.cells #[.slice av L cv] 55)) := (by repeat (first | exact Ext.refl _ | assumption | refine Ext.alloc ?_ _ | refine Ext.drew ?_ | refine Ext.trans ?_ (by assumption)))
  have HL := hide hL
  clear hL
  go_wp2_with fail
  have q0' := Ext.keep (Ext.new w1 (.cells #[.slice av L cv] 55)) q0
  have q1' := Ext.keep (Ext.new w1 (.cells #[.slice av L cv] 55)) q1
  refine (those_impl 164 #[.pointer (some ⟨w1.heap.size, 0, none⟩)] (schP sz.toNat vs) _ sz a c vs (hR.ext (by repeat (first | exact Ext.refl _ | assumption | refine Ext.alloc ?_ _ | refine Ext.drew ?_ | refine Ext.trans ?_ (by assumption)))) Try.call164 (fun n i j w' hn hn5 hS hi hj hw' => ?_)).mono ?_
  · subst hn
    have h0 := prof_of (by omega) hn5 hS
    · have e : pthO n vs = tabL n (pthV n vs) := by simp [pthO, h0]
      have hLn : L = n := by rw [HL.out, e, tabL_len]
      rw [e, hLn] at hv0
      rw [hLn] at p0
      exact schOne w' w1.heap.size n i j vs _ av cv ((hv0.ext (Ext.new w1 _)).ext (by rw [hLn] at hw'; exact hw')) (by rw [hLn] at hw'; exact hw'.keep p0) hi hj
  rintro e w2 ⟨v2, rfl, hv2, hw2⟩
  go_wp2
  go_ret
  exact ⟨_, rfl, hv2.base (Ext.size (by repeat (first | exact Ext.refl _ | assumption | refine Ext.alloc ?_ _ | refine Ext.drew ?_ | refine Ext.trans ?_ (by assumption)))), (by repeat (first | exact Ext.refl _ | assumption | refine Ext.alloc ?_ _ | refine Ext.drew ?_ | refine Ext.trans ?_ (by assumption)))⟩

set_option maxRecDepth 100000 in
theorem sch_those (n : Nat) (vs : List Vt) (i : Nat) : thoseP n (schP n vs) i = allN n (schP n vs i) := by
  have h : (fun j => decide (i = j) || schP n vs i j) = schP n vs i := by
    funext j
    by_cases e : i = j
    · subst e; simp [schP]
    · simp [e]
  unfold thoseP
  rw [h]

set_option maxRecDepth 100000 in
theorem flatMap_same {α β : Type} {f g : α → List β} : ∀ {l : List α}, (∀ x ∈ l, f x = g x) → l.flatMap f = l.flatMap g
  | [], _ => rfl
  | x :: l, h => by
    rw [List.flatMap_cons, List.flatMap_cons, h x (by simp), flatMap_same (fun y hy => h y (by simp [hy]))]
set_option maxRecDepth 100000 in
theorem flatMap_range {β : Type} (f : Int → List β) : ∀ s : List Int, s.flatMap f = (List.range s.length).flatMap (fun i => f (s.getD i 0))
  | [] => rfl
  | x :: s => by
    rw [List.flatMap_cons, flatMap_range f s, List.length_cons, List.range_succ_eq_map, List.flatMap_cons, List.flatMap_map]
    rfl

/-- The orders that begin with `pre`, k more candidates to come, as the spec draws them. -/
def allS (n : Nat) : Nat → List Int → List (List Int)
  | 0, pre => [pre]
  | k + 1, pre => (leftL n pre).flatMap (fun x => allS n k (pre ++ [x]))

/-- The orders of s (of length k) as the implementation draws them. -/
def ordL : Nat → List Int → List (List Int)
  | 0, _ => [[]]
  | k + 1, s => (List.range s.length).flatMap (fun i => (ordL k (s.eraseIdx i)).map (fun r => s.getD i 0 :: r))

set_option maxRecDepth 100000 in
theorem all_ord (n : Nat) : ∀ (k : Nat) (pre : List Int), allS n k pre = (ordL k (leftL n pre)).map (fun r => pre ++ r)
  | 0, pre => by simp [allS, ordL]
  | k + 1, pre => by
    unfold allS ordL
    rw [flatMap_range, List.map_flatMap]
    refine flatMap_same (fun i hi => ?_)
    have hi := List.mem_range.1 hi
    have hg : (leftL n pre)[i]? = some ((leftL n pre).getD i 0) := by
      rw [List.getD_eq_getElem?_getD, List.getElem?_eq_getElem hi]; rfl
    rw [all_ord n k, ← leftL_erase hg, List.map_map]
    refine List.map_congr_left (fun r _ => ?_)
    simp

set_option maxRecDepth 100000 in
theorem ordL_len (k : Nat) : ∀ (s : List Int), s.length = k → ∀ r ∈ ordL k s, r.length = k := by
  induction k with
  | zero => intro s _ r hr; simp [ordL] at hr; simp [hr]
  | succ k ih =>
    intro s hs r hr
    unfold ordL at hr
    obtain ⟨i, hi, hr⟩ := List.mem_flatMap.1 hr
    obtain ⟨t, ht, rfl⟩ := List.mem_map.1 hr
    have hi := List.mem_range.1 hi
    rw [List.length_cons, ih (s.eraseIdx i) (by rw [List.length_eraseIdx_of_lt hi]; omega) t ht]

/-- All rankings of n candidates. -/
def allO (n : Nat) : List (List Int) := allS n n []
set_option maxRecDepth 100000 in
theorem all_eq (n : Nat) : allO n = ordL n (leftL n []) := by
  unfold allO; rw [all_ord]; simp

/-- Counted from the earlier one. -/
def bkI (q : Int → Int → Bool) : List Int → Nat
  | [] => 0
  | x :: xs => xs.countP (fun y => q y x) + bkI q xs
/-- Counted from the later one. -/
def bkS (q : Int → Int → Bool) (r : List Int) (i : Nat) : Nat := match i with
  | 0 => 0
  | k + 1 => bkS q r k + (r.take k).countP (fun y => q (r.getD k 0) y)
set_option maxRecDepth 100000 in
theorem bkI_snoc (q : Int → Int → Bool) : ∀ (xs : List Int) (y : Int), bkI q (xs ++ [y]) = bkI q xs + xs.countP (fun x => q y x)
  | [], y => by simp [bkI]
  | x :: xs, y => by
    rw [List.cons_append, bkI, bkI_snoc q xs y, bkI, List.countP_append, List.countP_cons]
    simp only [List.countP_cons, List.countP_nil]
    omega
set_option maxRecDepth 100000 in
theorem bkS_bkI (q : Int → Int → Bool) (r : List Int) : ∀ k, k ≤ r.length → bkS q r k = bkI q (r.take k)
  | 0, _ => by simp [bkS, bkI]
  | k + 1, h => by
    obtain ⟨x, hx⟩ := at_of_lt (xs := r) (k := k) (by omega)
    rw [take_at hx, bkI_snoc, bkS, bkS_bkI q r k (by omega)]
    have : r.getD k 0 = x := by simp [List.getD, hx]
    rw [this]
set_option maxRecDepth 100000 in
theorem bkS_all (q : Int → Int → Bool) (r : List Int) : bkS q r r.length = bkI q r := by rw [bkS_bkI q r _ (Nat.le_refl _), List.take_length]
set_option maxRecDepth 100000 in
theorem bkI_bd (q : Int → Int → Bool) : ∀ xs : List Int, bkI q xs ≤ xs.length * xs.length
  | [] => by simp [bkI]
  | x :: xs => by
    have h := bkI_bd q xs
    have h2 := List.countP_le_length (p := fun y => q y x) (l := xs)
    rw [bkI, List.length_cons, Nat.add_mul, Nat.mul_add]
    omega
set_option maxRecDepth 100000 in
theorem bkI_congr {q q' : Int → Int → Bool} : ∀ {xs : List Int}, (∀ x ∈ xs, ∀ y ∈ xs, q x y = q' x y) → bkI q xs = bkI q' xs
  | [], _ => rfl
  | x :: xs, h => by
    rw [bkI, bkI, bkI_congr (xs := xs) (fun a ha b hb => h a (by simp [ha]) b (by simp [hb]))]
    congr 1
    exact List.countP_congr (fun y hy => by rw [h y (by simp [hy]) x (by simp)])
set_option maxRecDepth 100000 in
theorem bkI_zero {q : Int → Int → Bool} : ∀ {xs : List Int}, bkI q xs = 0 ↔ xs.Pairwise (fun x y => q y x = false)
  | [] => by simp [bkI]
  | x :: xs => by
    rw [bkI, List.pairwise_cons, ← bkI_zero (q := q) (xs := xs)]
    constructor
    · intro h
      have h1 : xs.countP (fun y => q y x) = 0 := by omega
      rw [List.countP_eq_zero] at h1
      exact ⟨fun y hy => by simpa using h1 y hy, by omega⟩
    · intro ⟨h1, h2⟩
      have : xs.countP (fun y => q y x) = 0 := by
        rw [List.countP_eq_zero]
        intro y hy
        rw [h1 y hy]; decide
      omega
/-- The part of the count from the earlier ones, up to place i, and in the middle of it. -/
def bkTo (q : Int → Int → Bool) (r : List Int) : Nat → Nat
  | 0 => 0
  | k + 1 => bkTo q r k + (r.drop (k + 1)).countP (fun y => q y (r.getD k 0))
set_option maxRecDepth 100000 in
theorem bkTo_drop (q : Int → Int → Bool) (r : List Int) : ∀ k, k ≤ r.length → bkTo q r k + bkI q (r.drop k) = bkI q r
  | 0, _ => by simp [bkTo]
  | k + 1, h => by
    obtain ⟨x, hx⟩ := at_of_lt (xs := r) (k := k) (by omega)
    have ih := bkTo_drop q r k (by omega)
    have hl := lt_of_at hx
    rw [List.drop_eq_getElem_cons hl, bkI] at ih
    have hg : r.getD k 0 = r[k] := by simp [List.getD, List.getElem?_eq_getElem hl]
    rw [bkTo, hg]
    omega
set_option maxRecDepth 100000 in
theorem bkTo_all (q : Int → Int → Bool) (r : List Int) : bkTo q r r.length = bkI q r := by
  have h := bkTo_drop q r r.length (Nat.le_refl _)
  rw [List.drop_length] at h
  simpa [bkI] using h

end Go.Proofs.Ythiojkpoeejkaaa
