/- The ballots of a vote that lead to each candidate, of the program. -/
import Derived.Test.YtilcdnkkabmbfaaGreatGnP
import Derived.Test.YtilcdnkkabmbfaaGreatWin
import Derived.Test.YtilcdnkkabmbfaaGreatWth2
import Derived.Test.YtilcdnkkabmbfaaGreatCk6
namespace Go.Proofs.YtilcdnkkabmbfaaGreat
open Go.RowKit

/-- Each cell is nil, or a ranking. -/
def WaysOk (w : World) (B n : Nat) (q : Int → Option (List Int)) (V : Nat → Value) : Prop := ∀ a : Nat, a < n → (q a = none ∧ V a = .slice none 0 0) ∨ ∃ r g c, q a = some r ∧ V a = .slice (some ⟨g, 0, none⟩) r.length c ∧ r.length ≤ c ∧ OwnI w B (V a) r
set_option maxRecDepth 100000 in
theorem WaysOk.ext {w w' : World} {B n : Nat} {q : Int → Option (List Int)} {V : Nat → Value} (h : WaysOk w B n q V) (hw : Ext w w') : WaysOk w' B n q V := fun a ha => by
  rcases h a ha with h | ⟨r, g, c, h1, h2, h3, h4⟩
  · exact .inl h
  · exact .inr ⟨r, g, c, h1, h2, h3, h4.ext hw⟩
set_option maxRecDepth 100000 in
theorem WaysOk.base {w : World} {B B' n : Nat} {q : Int → Option (List Int)} {V : Nat → Value} (h : WaysOk w B n q V) (hb : B' ≤ B) : WaysOk w B' n q V := fun a ha => by
  rcases h a ha with h | ⟨r, g, c, h1, h2, h3, h4⟩
  · exact .inl h
  · exact .inr ⟨r, g, c, h1, h2, h3, h4.base hb⟩
set_option maxRecDepth 100000 in
theorem WaysOk.rng {w w' : World} {B n lo hi : Nat} {q : Int → Option (List Int)} {V : Nat → Value} (h : WaysOk w B n q V) (hg : hi ≤ B) (hw : Rng lo hi w w') : WaysOk w' B n q V := fun a ha => by
  rcases h a ha with h | ⟨r, g, c, h1, h2, h3, h4⟩
  · exact .inl h
  · exact .inr ⟨r, g, c, h1, h2, h3, h4.rng hg hw⟩

set_option maxRecDepth 100000 in
set_option maxHeartbeats 8000000 in
theorem ways_impl (w : World) (rule : Int) (n : Nat) (a : Option Addr) (c k : Nat) (vs : List Vt) (x : Vt) (hx : vs[k]? = some x) (hR : RdV w a vs) (h0 : profOk n vs = true) (r1 : 1 ≤ rule) (r2 : rule ≤ 13) :
    Calls Tryz.prog 134 #[.int .i64 rule, .agg #[.int .i64 n, .slice a vs.length c], .int .i64 k] w fun e w' => ∃ g V, e = .returned (.slice (some ⟨g, 0, none⟩) n n) ∧ BlkF w' g n V ∧ WaysOk w' w.heap.size n (wayO (gnW rule n vs k) (allO n)) V ∧ w.heap.size ≤ g ∧ Ext w w' := by
  have hsz := prof_size h0
  have n1 : 1 ≤ n := by omega
  have n2 : n ≤ 5 := by omega
  have hnil : ∀ (W : World) (a : Addr) (n c : Nat), (binOp .eql 36 (.slice (some a) n c) (.slice none 0 0)).run Tryz.prog W = .ok (.bool false) W := fun W a n c => Lib.run_eql_slice_some_nil W a n c Tryz.underlying36
  have hnn : ∀ (W : World), (binOp .eql 36 (.slice none 0 0) (.slice none 0 0)).run Tryz.prog W = .ok (.bool true) W := fun W => Lib.run_eql_slice_nil_nil W 0 0 Tryz.underlying36
  obtain ⟨i0, hi, hz0, hz1, hz2⟩ := info_parts info_row
  have hmk := fun W => run_make_rowN (P := Tryz.prog) 93 36 i0 _ Tryz.underlying93 hi hz0 .i64 .i64 n n (Nat.le_refl _) (by rw [hz2]; omega) (by omega) W
  rw [hz1, Nat.mul_one] at hmk
  have q0 := new0 w (.int .i64 n) [.slice a vs.length c] 29
  have q1 := new1 w (.int .i64 n) (.slice a vs.length c) [] 29
  have hs0 : (w.alloc (.cells #[.int .i64 n, .slice a vs.length c] 29)).heap.size = w.heap.size + 1 := by simp
  have hE1 := Ext.new w (.cells #[.int .i64 n, .slice a vs.length c] 29)
  have H0 := hide h0
  have HX := hide hx
  have HWR : Hid (∀ w' ar cr r, Ext w w' → RdI w' ar r → rkOk n r = true → r.length ≤ cr → Calls Tryz.prog 60 #[.agg #[.int .i64 n, .slice a vs.length c], .int .i64 k, .slice ar r.length cr] w' fun e w'' => ∃ a' c', e = .returned (.tuple #[.agg #[.int .i64 n, .slice a' vs.length c'], .bool true]) ∧ RdV w'' a' (vs.set k (r, x.2)) ∧ Ext w' w'') := fun w' ar cr r hw' hRr hr hcr => withR_impl w' n a ar c cr k vs r x hx (hR.ext hw') hRr h0 hr hcr
  obtain ⟨W, hW⟩ : ∃ W, W = gnW rule n vs k := ⟨_, rfl⟩
  have HWI : Hid (∀ w' a3 c3 r, RdV w' a3 (vs.set k (r, x.2)) → Calls Tryz.prog 18 #[.int .i64 rule, .agg #[.int .i64 n, .slice a3 vs.length c3]] w' fun e w'' => e = .returned (.int .i64 (W r)) ∧ Ext w' w'') := fun w' a3 c3 r hR3 => by
    have h := winb_impl w' rule n a3 c3 _ hR3
    rw [List.length_set] at h
    rw [hW, show gnW rule n vs k r = winB rule n (vs.set k (r, x.2)) by unfold gnW; rw [show vs.getD k ([], 0) = x by simp [List.getD, hx]]]
    exact h
  have HWL : Hid (∀ r, rkOk n r = true → ∃ y : Nat, y < n ∧ W r = y) := fun r hr => by rw [hW]; exact gnW_lt h0 r1 r2 hx hr
  rw [← hW]
  clear hW h0 hx
  go_enter Tryz.func134, Tryz.ntmps134
  go_wp2_with fail
  clear hmk hi hz0 hz1 hz2
  generalize w.alloc (.cells #[.int .i64 n, .slice a vs.length c] 29) = wA at hE1 hs0 q0 q1 ⊢
  have hB := BlkF.new wA (madeCells #[.slice none 0 0] n) 36
  rw [size_madeCells] at hB
  have hB := hB.congr (f' := fun _ => .slice none 0 0) (fun o ho => made_row n o ho)
  have h20 := Ext.new wA (.cells (madeCells #[.slice none 0 0] n) 36)
  have hglt := hB.lt
  obtain ⟨g, hg⟩ : ∃ g : Nat, g = wA.heap.size := ⟨_, rfl⟩
  generalize wA.alloc (.cells (madeCells #[.slice none 0 0] n) 36) = W0 at hB h20 hglt ⊢
  rw [← hs0, ← hg]
  rw [← hg] at hB hglt
  have hwg : w.heap.size < g := by omega
  have q0 := h20.keep q0
  have q1 := h20.keep q1
  clear hg hs0
  refine (allR_impl _ n n1 n2).mono ?_
  rintro e w3 ⟨v, rfl, hv, hw3⟩
  have HM : Hid (∀ r ∈ allO n, rkOk n r = true) := fun r hr => (allO_mem n1 n2).1 hr
  have hrl : (allO n).length ≤ 3125 := Nat.le_trans (allS_len n2 n []) (Nat.pow_le_pow_right (n := 5) (by decide) n2)
  generalize hrw : allO n = rows at hv HM hrl
  have HRW := hide hrw
  clear hrw
  have hv := hv.wr
  have hv' := hv
  obtain ⟨av, cv, rfl, hcv, hju⟩ := hv'
  clear hju
  have hB := hB.ext hw3
  have Q0 := hw3.keep q0
  have Q1 := hw3.keep q1
  have hwc : Ext w w3 := hE1.trans (h20.trans hw3)
  obtain ⟨B, hBB⟩ : ∃ B, B = W0.heap.size := ⟨_, rfl⟩
  rw [← hBB] at hv hglt
  have hwB : w.heap.size ≤ B := by rw [hBB]; exact (hE1.trans h20).size
  clear hBB hE1 h20 hw3
  obtain ⟨wc, hwcc⟩ : ∃ wc : World, wc = w3 := ⟨_, rfl⟩
  subst hwcc
  go_wp2_with fail
  go_loopw [9, 10, 11, 12, 20] (fun _ _ _ _ i wr => ∃ (m : Nat) (V : Nat → Value), m ≤ rows.length ∧ i = .int .i64 m ∧ BlkF wr g n V ∧ Hid (WaysOk wr B n (wayO W (rows.take m)) V) ∧ Only g wc wr) (fun _ _ _ _ i _ => rows.length - (intOf i).toNat)
  case atStart => exact ⟨0, _, Nat.zero_le _, rfl, hB, fun a ha => .inl ⟨by simp [wayO], rfl⟩, Only.refl _ _⟩
  case round =>
    clear hB
    obtain ⟨m, V, hm, rfl, hB, hwy, hon⟩ := hrel
    by_cases hmt : m < rows.length
    · obtain ⟨r, hr⟩ := at_of_lt hmt
      have hEr : Ext w wr := Only.ext hwc hon (by omega)
      obtain ⟨g2, c3, a3, c4, hav, d0, hc4, hO⟩ := (hv.rng (lo := g) (hi := g + 1) (by omega) (Rng.of_only hon (Nat.le_refl _) (by omega))).own hr
      injection hav with hav hav2 hav3
      subst hav
      subst hav3
      clear hav2
      have hrk := HM.out r (List.mem_of_getElem? hr)
      have hrn : 0 < r.length := by have := (rk_len hrk).1; omega
      obtain ⟨g3, c5, hsl⟩ := hO.some hrn
      injection hsl with s1 s2 s3
      subst s1
      subst s3
      clear s2
      obtain ⟨y, hy, hWy⟩ := HWL.out r hrk
      have HWA := hide (wayO_at (W := W) hr)
      have HWY := hide hWy
      have HWRr := hide (HWR.out wr (some ⟨g3, 0, none⟩) c4 r hEr hO.rdI hrk hc4)
      have q0 := hon.keep (by dsimp only; omega) Q0
      have q1 := hon.keep (by dsimp only; omega) Q1
      have HO := hide hO
      have hm1 : m + 1 ≤ rows.length := by omega
      have yi : (y : Int) < (n : Int) := by omega
      have yj : (0 : Int) ≤ (y : Int) := by omega
      have HRL := hide hrn
      clear hr hrk hO hWy hrn
      go_wp2_with fail
      refine HWRr.out.mono ?_
      rintro e w4 ⟨a4, c6, rfl, hR4, hw4⟩
      have hE5 := Ext.new w4 (.cells #[.int .i64 n, .slice a4 vs.length c6] 29)
      have HWJ := HWI.out (w4.alloc (.cells #[.int .i64 n, .slice a4 vs.length c6] 29)) a4 c6 r (hR4.ext hE5)
      rw [HWY.out] at HWJ
      have HWJ := hide HWJ
      clear hR4 HWRr
      go_wp2_with fail
      refine HWJ.out.mono ?_
      rintro e w5 ⟨rfl, hw5⟩
      have hE6 : Ext wr w5 := hw4.trans (hE5.trans hw5)
      have hB6 := hB.ext hE6
      have hwy6 := hwy.out.ext hE6
      have cy := hB6.cell y hy
      have zy := hB6.fr y
      have hbl := hB6.lt
      rcases hwy6 y hy with ⟨hq, hV⟩ | ⟨r', g', c', hq, hV, _, _⟩
      · rw [hV] at cy
        have HV := hide hV
        have HQ := hide hq
        have HB6 := hide hB6
        have HW6 := hide hwy6
        have HO6 := hide (HO.out.ext hE6)
        clear hB hwy hq hV hB6 hwy6
        go_wp2
        have hOg : Only g w5 (w5.setCell ⟨g, y, none⟩ (.slice (some ⟨g3, 0, none⟩) r.length c4)) := (Only.refl g w5).setCell _ _
        have hRg : Rng g (g + 1) w5 (w5.setCell ⟨g, y, none⟩ (.slice (some ⟨g3, 0, none⟩) r.length c4)) := Rng.of_only hOg (Nat.le_refl _) (by omega)
        refine ⟨⟨m + 1, fun o => if o = y then .slice (some ⟨g3, 0, none⟩) r.length c4 else V o, hm1, by go_num, HB6.out.set y hy _, hide (fun a' ha' => ?_), (hon.trans (Only.of_ext hE6)).trans hOg⟩, by simp [intOf]; omega⟩
        rw [HWA.out]
        by_cases e : a' = y
        · subst e
          refine .inr ⟨r, g3, c4, by rw [if_pos ⟨by rw [HQ.out]; rfl, HWY.out⟩], by dsimp only; rw [if_pos rfl], hc4, ?_⟩
          dsimp only
          rw [if_pos rfl]
          exact HO6.out.rng (by omega) hRg
        · rw [if_neg (fun h => e (by have := h.2; rw [HWY.out] at this; omega))]
          have h := (HW6.out.rng (by omega) hRg) a' ha'
          dsimp only
          rw [if_neg e]
          exact h
      · rw [hV] at cy
        have HQ := hide hq
        have HB6 := hide hB6
        have HW6 := hide hwy6
        clear hB hwy hq hV hB6 hwy6
        go_wp2
        refine ⟨⟨m + 1, V, hm1, by go_num, HB6.out, hide (fun a' ha' => ?_), hon.trans (Only.of_ext hE6)⟩, by simp [intOf]; omega⟩
        rw [HWA.out, if_neg (fun h => by
          have h2 := h.2
          rw [HWY.out] at h2
          have h1 := h.1
          rw [← h2, HQ.out] at h1
          cases h1)]
        exact HW6.out a' ha'
    · have hml : m = rows.length := by omega
      have HW := hwy.out
      rw [hml, List.take_length] at HW
      have HW := hide HW
      have HB := hide hB
      clear hml hwy hB
      go_wp2
      go_ret
      exact ⟨_, _, rfl, HB.out, by rw [HRW.out]; exact HW.out.base hwB, by omega, Only.ext hwc hon (by omega)⟩

end Go.Proofs.YtilcdnkkabmbfaaGreat
