/- The pairs that are kept, of the spec. -/
import Derived.Test.YtilcdnkkabmbfaaGreatCk8
import Derived.Test.YtilcdnkkabmbfaaGreatCk19
import Derived.Test.YtilcdnkkabmbfaaGreatCk17
import Derived.Test.YtilcdnkkabmbfaaGreatCk2
import Derived.Test.YtilcdnkkabmbfaaGreatCk14
namespace Go.Proofs.YtilcdnkkabmbfaaGreat
open Go.RowKit

set_option maxRecDepth 100000 in
theorem hasI_place (xs : List Int) (x : Int) : (placeI xs x < 0) ↔ hasI xs x = false := by
  unfold placeI hasI findI
  cases h : xs.findIdx? (fun y => x == y) with
  | none =>
    rw [List.findIdx?_eq_none_iff] at h
    simp only [List.contains_eq_mem]
    constructor
    · intro _
      rw [decide_eq_false_iff_not]
      intro hm
      have := h x hm
      simp at this
    · intro _; decide
  | some i =>
    rw [List.findIdx?_eq_some_iff_getElem] at h
    obtain ⟨hk, h1, _⟩ := h
    simp only [List.contains_eq_mem]
    constructor
    · intro h2; omega
    · intro h2
      rw [decide_eq_false_iff_not] at h2
      rw [beq_iff_eq] at h1
      exact absurd (h1 ▸ List.getElem_mem hk) h2

set_option maxRecDepth 100000 in
set_option maxHeartbeats 4000000 in
theorem way_spec (w : World) (B : Nat) (v : Value) (kept : List (List Int)) (n : Nat) (n2 : n ≤ 5) (i j : Nat) (hi : i < n) (hR : RdSS w B v kept) (hp : ∀ x ∈ kept, PairN n x) (hl : kept.length ≤ 1000) :
    Calls Tryz.prog 216 #[v, .int .i64 i, .int .i64 j] w fun e w' => e = .returned (.bool (wayB kept i j)) ∧ Ext w w' := by
  obtain ⟨av, cv, rfl, hju⟩ := hR
  have hR : RdSS w B (.slice av kept.length cv) kept := ⟨av, cv, rfl, hju⟩
  have HP := hide hp
  clear hp hju
  go_enter Tryz.func216, Tryz.ntmps216
  go_wp2_with fail
  have hO := OwnI.lit1 w (i : Int)
  have hE := Ext.new w (.cells #[.int .i64 (i : Int)] 3)
  generalize w.alloc (.cells #[.int .i64 (i : Int)] 3) = W0 at hO hE ⊢
  go_loopw [7, 8, 10, 25, 26, 27] (fun v k _ _ _ _ wr => ∃ (s : List Int) (m : Nat), k = .int .i64 m ∧ OwnI wr w.heap.size v s ∧ Hid (SeenOk n kept i j s m) ∧ m ≤ s.length ∧ Ext w wr) (fun _ k _ _ _ _ _ => 5 - (intOf k).toNat)
  case atStart => exact ⟨_, 0, rfl, hO, SeenOk.begin ⟨i, hi, rfl⟩, Nat.zero_le _, hE⟩
  case round =>
    clear hO hE
    obtain ⟨s, m, rfl, hown, hok, hm, hwr⟩ := hrel
    have hs5 := hok.out.len
    obtain ⟨aS, cs, rfl, hcs, hcm, hRs, hju⟩ := hown.val
    clear hju
    by_cases hmt : m < s.length
    · obtain ⟨y, hy⟩ := at_of_lt hmt
      obtain ⟨b, off, rfl, c0⟩ := hRs.at_ hy
      by_cases hyj : y = j
      · have hy1 : (y == (j : Int)) = true := by rw [beq_iff_eq]; exact hyj
        have HW : Hid (wayB kept i j = true) := hide (hok.out.yes (by rw [hy, hyj]))
        clear hyj hy
        go_wp2
        go_ret
        exact ⟨ret_bool HW.out.symm, hwr⟩
      · have hy1 : (y == (j : Int)) = false := by rw [beq_eq_false_iff_ne]; exact hyj
        have HIN : Hid (SeenIn n kept i j y s m 0) := hide ⟨hok.out, hy, fun x hx => by simp at hx⟩
        have HYJ := hide hyj
        clear hyj hy hok
        go_wp2
        go_loopw [7, 10, 27] (fun v _ q wr => ∃ (s : List Int) (k : Nat), q = .int .i64 k ∧ OwnI wr w.heap.size v s ∧ Hid (SeenIn n kept i j y s m k) ∧ k ≤ kept.length ∧ Ext w wr) (fun _ _ q _ => kept.length - (intOf q).toNat)
        case atStart => exact ⟨s, 0, rfl, hown, HIN, Nat.zero_le _, hwr⟩
        case round =>
          clear hown hRs c0 HIN hmt hm hcs hcm hs5 hwr
          obtain ⟨s, k, rfl, hown, hin, hk, hwr⟩ := hrel
          have hs5 := hin.out.ok.len
          have hat := hin.out.at_
          have hmt := lt_of_at hat
          obtain ⟨aS, cs, rfl, hcs, hcm, hRs, hju⟩ := hown.val
          clear hju
          obtain ⟨b, off, rfl, c0⟩ := hRs.at_ hat
          by_cases hkt : k < kept.length
          · obtain ⟨x, hx⟩ := at_of_lt hkt
            obtain ⟨bv, offv, a', c', rfl, d0, hRx⟩ := (hR.ext hwr).at_ hx
            obtain ⟨p, q, hp, hq, hxe⟩ := HP.out x (List.mem_of_getElem? hx)
            subst hxe
            obtain ⟨b2, o2, rfl, e0, e1⟩ := hRx.two
            have hpl : ([(p : Int), (q : Int)] : List Int).length = 2 := rfl
            rw [hpl] at d0
            have HO := hide hown
            have HX := hide hx
            clear hown hx hat hpl
            by_cases hpy : (p : Int) = y
            · have t1 : ((p : Int) == y) = true := by rw [beq_iff_eq]; exact hpy
              cases hh : hasI s (q : Int)
              · have t2 : placeI s (q : Int) < 0 := (hasI_place s q).2 hh
                have HA : Hid (SeenIn n kept i j y (s ++ [(q : Int)]) m (k + 1)) := hide (hin.out.add HX.out ⟨q, hq, rfl⟩ hpy hh)
                clear hpy
                go_wp2
                refine wp_region_X (by kernel_rfl) (by kernel_rfl) ?_
                repeat' (refine wpX_stepQ (fun K hK => ?_)
                         go_simp
                         try (rw [if_neg (by intro h; simp [undef] at h)])
                         try split
                         all_goals
                           first
                           | (refine hK _ ?_
                              clear hK K)
                           | (apply Exists.intro
                              refine ⟨fun wq hwq => ?_, hK _ ?_⟩
                              · have hcq := hwq.cellS
                                go_simp
                                first
                                | exact ⟨Ext.refl _, rfl⟩
                                | exact ⟨Ext.refl _, place_spec _ _ _ _ _ (hRs.ext (by repeat (first | exact Ext.refl _ | assumption | refine Ext.alloc ?_ _ | refine Ext.drew ?_ | refine Ext.trans ?_ (by assumption)))) (by omega)⟩
                              clear hK K))
                refine wpX_nil (fun wz hwz => ?_)
                have e1 := hwz.keep e1
                have hOz := HO.out.ext hwz
                have hwz2 := hwr.trans hwz
                go_wp2_with (at_builtin; go_loud (refine wpList_appI w wz rfl (.tmp 47) (.tmp 51) rfl _ s _ rfl (by exact hOz) hwz2 rfl (by omega) ?_); intro v' w4 hown4 hw4)
                exact ⟨⟨_, k + 1, by go_num, hown4, HA, by omega, hw4⟩, by simp [intOf]; omega⟩
              · have t2 : ¬ placeI s (q : Int) < 0 := fun h => by rw [(hasI_place s q).1 h] at hh; cases hh
                have HA : Hid (SeenIn n kept i j y s m (k + 1)) := hide (hin.out.pass HX.out (.inr hh))
                clear hpy
                go_wp2
                refine wp_region_X (by kernel_rfl) (by kernel_rfl) ?_
                repeat' (refine wpX_stepQ (fun K hK => ?_)
                         go_simp
                         try (rw [if_neg (by intro h; simp [undef] at h)])
                         try split
                         all_goals
                           first
                           | (refine hK _ ?_
                              clear hK K)
                           | (apply Exists.intro
                              refine ⟨fun wq hwq => ?_, hK _ ?_⟩
                              · have hcq := hwq.cellS
                                go_simp
                                first
                                | exact ⟨Ext.refl _, rfl⟩
                                | exact ⟨Ext.refl _, place_spec _ _ _ _ _ (hRs.ext (by repeat (first | exact Ext.refl _ | assumption | refine Ext.alloc ?_ _ | refine Ext.drew ?_ | refine Ext.trans ?_ (by assumption)))) (by omega)⟩
                              clear hK K))
                refine wpX_nil (fun wz hwz => ?_)
                go_wp2
                exact ⟨⟨s, k + 1, by go_num, HO.out.ext hwz, HA, by omega, hwr.trans hwz⟩, by simp [intOf]; omega⟩
            · have t1 : ((p : Int) == y) = false := by rw [beq_eq_false_iff_ne]; exact hpy
              have HA : Hid (SeenIn n kept i j y s m (k + 1)) := hide (hin.out.pass HX.out (.inl hpy))
              clear hpy
              go_wp2
              refine wp_region_X (by kernel_rfl) (by kernel_rfl) ?_
              repeat' (refine wpX_stepQ (fun K hK => ?_)
                       go_simp
                       try (rw [if_neg (by intro h; simp [undef] at h)])
                       try split
                       all_goals
                         first
                         | (refine hK _ ?_
                            clear hK K)
                         | (apply Exists.intro
                            refine ⟨fun wq hwq => ?_, hK _ ?_⟩
                            · have hcq := hwq.cellS
                              go_simp
                              first
                              | exact ⟨Ext.refl _, rfl⟩
                            clear hK K))
              refine wpX_nil (fun wz hwz => ?_)
              go_wp2
              exact ⟨⟨s, k + 1, by go_num, HO.out.ext hwz, HA, by omega, hwr.trans hwz⟩, by simp [intOf]; omega⟩
          · have HN : Hid (SeenOk n kept i j s (m + 1)) := hide (hin.out.next (by omega) HYJ.out)
            clear hat
            go_wp2
            exact ⟨⟨s, m + 1, by go_num, hown, HN, by omega, hwr⟩, by simp [intOf]; omega⟩
    · have HW : Hid (wayB kept i j = false) := hide (hok.out.no (by omega))
      go_wp2
      go_ret
      exact ⟨ret_bool HW.out.symm, hwr⟩

set_option maxRecDepth 100000 in
theorem insD_rows {vs : List Vt} {es : List RowE} {xss : List (List Int)} {x : List Int} {m : Nat} {e : RowE} (hmap : es.map RowE.xs = sortD (margP vs) xss) (hle : ∀ y ∈ es.take m, margP vs x ≤ margP vs y.xs) (he : m = es.length ∨ ∃ y, es[m]? = some y ∧ margP vs y.xs < margP vs x) (hx : e.xs = x) :
    (es.take m ++ e :: es.drop m).map RowE.xs = sortD (margP vs) (xss ++ [x]) := by
  rw [sortD_snoc, ← hmap, List.map_append, List.map_cons, List.map_take, List.map_drop, hx]
  refine (insD_count (fun y hy => ?_) ?_ ?_).symm
  · rw [← List.map_take] at hy
    obtain ⟨e', he', rfl⟩ := List.mem_map.1 hy
    exact hle e' he'
  · rcases he with he | ⟨y, hy, hlt⟩
    · exact .inl (by rw [List.length_map]; exact he)
    · exact .inr ⟨y.xs, by rw [List.getElem?_map, hy]; rfl, hlt⟩
  · rw [hmap]; exact sortD_desc _ _
set_option maxRecDepth 100000 in
theorem marginO_in {n : Nat} {vs : List Vt} (h0 : profOk n vs = true) {i j : Nat} (hi : i < n) (hj : j < n) : marginO n vs i j = marginV vs i j := by
  have h1 : hasB n i = true := inR_iff.2 (by omega)
  have h2 : hasB n j = true := inR_iff.2 (by omega)
  simp [marginO, h0, h1, h2]
/-- What the list of pairs holds. -/
def PrsS (w : World) (B : Nat) (v : Value) (xss : List (List Int)) : Prop := ∃ es g c, v = .slice (some ⟨g, 0, none⟩) es.length c ∧ es.length ≤ c ∧ LstE w B v es ∧ es.map RowE.xs = xss
set_option maxRecDepth 100000 in
theorem PrsS.ext {w w' : World} {B : Nat} {v : Value} {xss : List (List Int)} (h : PrsS w B v xss) (hw : Ext w w') : PrsS w' B v xss := by
  obtain ⟨es, g, c, hv, hc, hl, hm⟩ := h
  exact ⟨es, g, c, hv, hc, hl.ext hw, hm⟩
set_option maxRecDepth 100000 in
theorem PrsS.made0 (w : World) : PrsS (w.alloc (.cells #[] 36)) w.heap.size (.slice (some ⟨w.heap.size, 0, none⟩) 0 0) [] := ⟨[], _, 0, rfl, Nat.le_refl _, LstE.made0 w, rfl⟩
set_option maxRecDepth 100000 in
theorem PrsS.of {w : World} {B : Nat} {v : Value} {es : List RowE} {xss : List (List Int)} (h : LstE w B v es) (hne : es ≠ []) (hm : es.map RowE.xs = xss) : PrsS w B v xss := by
  have h1 := h
  obtain ⟨hr, _⟩ := h
  rcases hr.two with ⟨rfl, he⟩ | ⟨g, c, rfl, hc, hg, hB⟩
  · exact absurd he hne
  · exact ⟨es, g, c, rfl, hc, h1, hm⟩

set_option maxRecDepth 100000 in
set_option maxHeartbeats 8000000 in
theorem prs_spec (w : World) (n : Nat) (a : Option Addr) (c : Nat) (vs : List Vt) (hR : RdV w a vs) (h0 : profOk n vs = true) (n2 : n ≤ 5) :
    Calls Tryz.prog 215 #[.agg #[.int .i64 n, .slice a vs.length c]] w fun e w' => ∃ v, e = .returned v ∧ PrsS w' w.heap.size v (srtP n vs) ∧ Ext w w' := by
  have HS := hide (prof_small h0)
  have H0 := hide h0
  have q0 := new0 w (.int .i64 n) [.slice a vs.length c] 29
  have q1 := new1 w (.int .i64 n) (.slice a vs.length c) [] 29
  clear h0
  go_enter Tryz.func215, Tryz.ntmps215
  go_wp2_with fail
  have hE0 := Ext.new w (.cells #[.int .i64 n, .slice a vs.length c] 29)
  have hbs : (w.alloc (.cells #[.int .i64 n, .slice a vs.length c] 29)).heap.size = w.heap.size + 1 := by simp
  generalize w.alloc (.cells #[.int .i64 n, .slice a vs.length c] 29) = wb at q0 q1 hE0 hbs ⊢
  have hRb := hR.ext hE0
  have hO := PrsS.made0 wb
  have hE := Ext.new wb (.cells #[] 36)
  generalize wb.alloc (.cells #[] 36) = W0 at hO hE ⊢
  go_loopw [3, 4, 5, 6, 7] (fun v i _ _ _ wr => ∃ j : Nat, j ≤ n ∧ i = .int .i64 j ∧ Hid (PrsS wr wb.heap.size v (sortD (margP vs) (prAll n vs j))) ∧ Ext wb wr) (fun _ i _ _ _ _ => n - (intOf i).toNat)
  case atStart => rw [← hbs]; exact ⟨0, Nat.zero_le _, rfl, hO, hE⟩
  case round =>
    clear hO hE hbs
    obtain ⟨j, hj, rfl, hown, hwr⟩ := hrel
    have r0 := hwr.keep q0
    have r1 := hwr.keep q1
    by_cases hjt : j < n
    · have hown0 : Hid (PrsS wr wb.heap.size _ (sortD (margP vs) (prAll n vs j ++ prRow vs j 0))) := hide (by rw [prRow, List.append_nil]; exact hown.out)
      go_wp2
      go_loopw [3, 5, 6, 7] (fun v i _ _ wr => ∃ b : Nat, b ≤ n ∧ i = .int .i64 b ∧ Hid (PrsS wr wb.heap.size v (sortD (margP vs) (prAll n vs j ++ prRow vs j b))) ∧ Ext wb wr) (fun _ i _ _ _ => n - (intOf i).toNat)
      case atStart => exact ⟨0, Nat.zero_le _, rfl, hown0, hwr⟩
      case round =>
        clear hown0 hown hwr r0 r1
        obtain ⟨b, hb, rfl, hown, hwr⟩ := hrel
        have r0 := hwr.keep q0
        have r1 := hwr.keep q1
        have hRr := hRb.ext hwr
        by_cases hbt : b < n
        · cases hbe : beatsV vs j b
          · go_wp2_with (go_at_call 201; refine (beats_spec _ _ _ _ _ _ _ (hRr.ext (by repeat (first | exact Ext.refl _ | assumption | refine Ext.alloc ?_ _ | refine Ext.drew ?_ | refine Ext.trans ?_ (by assumption)))) HS.out).mono ?_; rintro e w1 ⟨rfl, hw1⟩)
            exact ⟨⟨b + 1, by omega, by go_num, hide (by rw [prRow, hbe, if_neg (by decide), List.append_nil]; exact hown.out.ext hw1), hwr.trans hw1⟩, by simp [intOf]; omega⟩
          · have HNX : Hid (prRow vs j (b + 1) = prRow vs j b ++ [[(j : Int), (b : Int)]]) := hide (by rw [prRow, hbe, if_pos rfl])
            obtain ⟨es, g, co, rfl, hco, hlst, hmap⟩ := hown.out
            have HMAP := hide hmap
            have HP : Hid (∀ e ∈ es, ∃ x y : Nat, x < n ∧ y < n ∧ e.xs = [(x : Int), (y : Int)]) := fun e he => by
              have h1 : e.xs ∈ es.map RowE.xs := List.mem_map_of_mem he
              rw [hmap, sortD_mem] at h1
              rcases List.mem_append.1 h1 with h1 | h1
              · exact (prAll_mem j (by omega) _ h1).1
              · exact (prRow_mem (by omega) b (by omega) _ h1).1
            have hel : es.length ≤ 30 := by
              have h1 := prAll_len n vs j
              have h2 := prRow_len vs j b
              have h3 := congrArg List.length hmap
              rw [List.length_map, sortD_len, List.length_append] at h3
              have h4 : j * n ≤ 4 * 5 := Nat.mul_le_mul (by omega) n2
              omega
            clear hmap hown
            have HLST := hide hlst
            have HOUT := hlst.1.rdE
            have HENT := hide hlst.2
            clear hlst
            have HM2 : Hid (margP vs [(j : Int), (b : Int)] = marginV vs j b) := rfl
            have HMO := hide (marginO_in H0.out hjt hbt)
            go_wp2_with (go_at_call 201; refine (beats_spec _ _ _ _ _ _ _ (hRr.ext (by repeat (first | exact Ext.refl _ | assumption | refine Ext.alloc ?_ _ | refine Ext.drew ?_ | refine Ext.trans ?_ (by assumption)))) HS.out).mono ?_; rintro e w1 ⟨rfl, hw1⟩; have r0 := Ext.keep (w' := w1) (by repeat (first | exact Ext.refl _ | assumption | refine Ext.alloc ?_ _ | refine Ext.drew ?_ | refine Ext.trans ?_ (by assumption))) r0; have r1 := Ext.keep (w' := w1) (by repeat (first | exact Ext.refl _ | assumption | refine Ext.alloc ?_ _ | refine Ext.drew ?_ | refine Ext.trans ?_ (by assumption))) r1)
            have HLST := hide (HLST.out.ext hw1)
            have HENT := hide (HENT.out.ext hw1)
            have HRE := hide (HOUT.ext hw1)
            clear HOUT
            have hwr1 := hwr.trans hw1
            have hRr := hRr.ext hw1
            clear hw1
            obtain ⟨wo, hwo⟩ : ∃ wo : World, wo = w1 := ⟨_, rfl⟩
            subst hwo
            go_loopw [6] (fun k wr => ∃ m : Nat, m ≤ es.length ∧ k = .int .i64 m ∧ Hid (∀ y ∈ es.take m, marginV vs j b ≤ margP vs y.xs) ∧ Ext wo wr) (fun k _ => es.length - (intOf k).toNat)
            case atStart => exact ⟨0, Nat.zero_le _, rfl, (fun y hy => by simp at hy), Ext.refl _⟩
            case round =>
              obtain ⟨m, hm, rfl, hle, hwr2⟩ := hrel
              have s0 := hwr2.keep r0
              have s1 := hwr2.keep r1
              have hRs := hRr.ext hwr2
              have hEND := fun h => insD_rows (e := (⟨none, 0, 0, [(j : Int), (b : Int)]⟩ : RowE)) HMAP.out (x := [(j : Int), (b : Int)]) (m := m) hle.out h rfl
              have HE := hide hEND
              clear hEND
              by_cases hmt : m < es.length
              · obtain ⟨e, he⟩ := at_of_lt hmt
                have hem := List.mem_of_getElem? he
                obtain ⟨b3, off3, hb3, hcell⟩ := HRE.out (ne_of_at he)
                injection hb3 with hb3
                injection hb3 with hb3 hb4
                subst hb3
                subst hb4
                have d0 := hwr2.keep (hcell m e he)
                rw [Nat.zero_add] at d0
                obtain ⟨x, y, hx, hy, hxy⟩ := HP.out e hem
                have hRx := ((HENT.out.ext hwr2).rd hem).1
                have hnx := ((HENT.out.ext hwr2).rd hem).2
                rw [hxy] at hRx hnx
                obtain ⟨b5, o5, hb5, d1, d2⟩ := hRx.two
                rw [rowV, hb5, hnx] at d0
                have hl2 : ([(x : Int), (y : Int)] : List Int).length = 2 := rfl
                rw [hl2] at d0
                have HMX := hide (marginO_in H0.out hx hy)
                have HME : Hid (margP vs e.xs = marginV vs x y) := hide (by rw [hxy]; rfl)
                have HEAT := hide he
                have y1 : wrap64 ((m : Int) + 1) = (m : Int) + 1 := IntWalk.wrap64_in _ (by omega)
                clear he hcell hRx hnx hb5 hl2
                by_cases hge : marginV vs j b ≤ marginV vs x y
                · have t1 : marginO n vs j b ≤ marginO n vs x y := by rw [HMO.out, HMX.out]; exact hge
                  go_wp2
                  refine wp_region_X (by kernel_rfl) (by kernel_rfl) ?_
                  repeat' (refine wpX_stepQ (fun K hK => ?_)
                           go_simp
                           try (rw [if_neg (by intro h; simp [undef] at h)])
                           try split
                           all_goals
                             first
                             | (refine hK _ ?_
                                clear hK K)
                             | (apply Exists.intro
                                refine ⟨fun wq hwq => ?_, hK _ ?_⟩
                                · have hcq := hwq.cellS
                                  go_simp
                                  first
                                  | exact ⟨Ext.refl _, rfl⟩
                                  | exact ⟨Ext.refl _, margin_spec' _ _ _ _ _ _ _ (hRs.ext (by repeat (first | exact Ext.refl _ | assumption | refine Ext.alloc ?_ _ | refine Ext.drew ?_ | refine Ext.trans ?_ (by assumption))))⟩
                                clear hK K))
                  refine wpX_nil (fun wz hwz => ?_)
                  go_wp2
                  exact ⟨⟨m + 1, by omega, by go_num, (fun z hz => by
                    rw [take_at HEAT.out] at hz
                    rcases List.mem_append.1 hz with hz | hz
                    · exact hle.out z hz
                    · simp at hz
                      rw [hz, HME.out]; exact hge), hwr2.trans hwz⟩, by simp [intOf]; omega⟩
                · have t1 : ¬ marginO n vs j b ≤ marginO n vs x y := by rw [HMO.out, HMX.out]; exact hge
                  have H2 := hide (HE.out (.inr ⟨e, HEAT.out, by rw [HME.out, HM2.out]; omega⟩))
                  go_wp2
                  refine wp_region_X (by kernel_rfl) (by kernel_rfl) ?_
                  repeat' (refine wpX_stepQ (fun K hK => ?_)
                           go_simp
                           try (rw [if_neg (by intro h; simp [undef] at h)])
                           try split
                           all_goals
                             first
                             | (refine hK _ ?_
                                clear hK K)
                             | (apply Exists.intro
                                refine ⟨fun wq hwq => ?_, hK _ ?_⟩
                                · have hcq := hwq.cellS
                                  go_simp
                                  first
                                  | exact ⟨Ext.refl _, rfl⟩
                                  | exact ⟨Ext.refl _, margin_spec' _ _ _ _ _ _ _ (hRs.ext (by repeat (first | exact Ext.refl _ | assumption | refine Ext.alloc ?_ _ | refine Ext.drew ?_ | refine Ext.trans ?_ (by assumption))))⟩
                                clear hK K))
                  refine wpX_nil (fun wz hwz => ?_)
                  have hRz := HRE.out.ext (hwr2.trans hwz)
                  have hwo := hwr2.trans hwz
                  have hwz2 := hwr1.trans hwo
                  have hENz := hide (HENT.out.ext hwo)
                  have hO0 := RowsE.made0 wz
                  have hE0' := Ext.new wz (.cells #[] 36)
                  have hT := hRz.take m
                  have hRd1 : Hid (co = m → RdE wz (some ⟨g, 0, none⟩) (es.drop m)) := fun h => by
                    have h2 := hRz.drop (n := 0 + m) m co (by omega) rfl
                    rwa [if_pos h] at h2
                  have hRd2 : Hid (¬ co = m → RdE wz (some ⟨g, m, none⟩) (es.drop m)) := fun h => by
                    have h2 := hRz.drop (n := 0 + m) m co (by omega) rfl
                    rwa [if_neg h, Nat.zero_add] at h2
                  have htl : m = (es.take m).length := by rw [List.length_take]; omega
                  have hdl : es.length - m = (es.drop m).length := by rw [List.length_drop]
                  have ht5 : (es.take m).length ≤ 30 := by rw [List.length_take]; omega
                  have hd5 : (es.drop m).length ≤ 30 := by rw [List.length_drop]; omega
                  have hmc : m ≤ co := by omega
                  have HTL := hide htl
                  have HDL := hide hdl
                  clear htl hdl hRz d0 d1 d2
                  go_wp2_with (first
                    | (at_builtin; refine wpList_appE wz.heap.size _ rfl (.tmp 53) (.tmp 56) rfl _ [] (es.take m) rfl (by exact hO0) hE0'.size (some ⟨g, 0, none⟩) m co HTL.out rfl (hT.ext hE0') (by rw [List.length_nil]; omega) ?_; intro v1 w1 hO1 hg1 _; have hE1 : Ext wz w1 := Ext.grown hE0' hg1 (ownsRow_block hO0))
                    | (at_builtin; refine wpList_oneE wz.heap.size (w1.alloc _) rfl (.tmp 58) (.tmp 62) rfl _ (es.take m) ⟨some ⟨w1.heap.size, 0, none⟩, 2, 2, [(j : Int), (b : Int)]⟩ rfl (by exact hO1.ext (Ext.new _ _)) (hE1.alloc _).size (w1.heap.size + 1) (by simp) rfl (by omega) ?_; intro v2 w2 hO2 hg2; have hE2 : Ext wz w2 := Ext.grown (hE1.alloc _) hg2 (ownsRow_block hO1))
                    | (at_builtin; refine wpList_appE wz.heap.size _ rfl (.tmp 64) (.tmp 67) rfl _ (es.take m ++ [⟨some ⟨w1.heap.size, 0, none⟩, 2, 2, [(j : Int), (b : Int)]⟩]) (es.drop m) rfl (by exact hO2) hE2.size _ _ _ HDL.out rfl ((hRd1.out (by omega)).ext hE2) (by rw [List.length_append, List.length_singleton]; omega) ?_; intro v3 w3 hO3 hg3 _)
                    | (at_builtin; refine wpList_appE wz.heap.size _ rfl (.tmp 64) (.tmp 67) rfl _ (es.take m ++ [⟨some ⟨w1.heap.size, 0, none⟩, 2, 2, [(j : Int), (b : Int)]⟩]) (es.drop m) rfl (by exact hO2) hE2.size _ _ _ HDL.out rfl ((hRd2.out (by omega)).ext hE2) (by rw [List.length_append, List.length_singleton]; omega) ?_; intro v3 w3 hO3 hg3 _))
                  all_goals
                    have hE3 : Ext wz w3 := Ext.grown hE2 hg3 (ownsRow_block hO2)
                    have hF := ent_ins m hwz2.size hENz.out hE3 hE1 hO1 hg2 hO2 hg3
                    have hE4 : Ext wb w3 := hwz2.trans hE3
                    refine ⟨⟨b + 1, by omega, by go_num, hide (PrsS.of ⟨hO3.base hwz2.size, hF⟩ (by simp) ?_), hE4⟩, by simp [intOf]; omega⟩
                    rw [HNX.out, ← List.append_assoc, ← H2.out, List.append_assoc, List.singleton_append, List.map_append, List.map_append, List.map_cons, List.map_cons]
              · have hml : m = es.length := by omega
                have H2 := hide (HE.out (.inl hml))
                subst hml
                go_wp2
                refine wp_region_X (by kernel_rfl) (by kernel_rfl) ?_
                repeat' (refine wpX_stepQ (fun K hK => ?_)
                         go_simp
                         try (rw [if_neg (by intro h; simp [undef] at h)])
                         try split
                         all_goals
                           first
                           | (refine hK _ ?_
                              clear hK K)
                           | (apply Exists.intro
                              refine ⟨fun wq hwq => ?_, hK _ ?_⟩
                              · have hcq := hwq.cellS
                                go_simp
                                first
                                | exact ⟨Ext.refl _, rfl⟩
                              clear hK K))
                refine wpX_nil (fun wz hwz => ?_)
                have hRz := HRE.out.ext (hwr2.trans hwz)
                have hwo := hwr2.trans hwz
                have hwz2 := hwr1.trans hwo
                have hENz := hide (HENT.out.ext hwo)
                have hO0 := RowsE.made0 wz
                have hE0' := Ext.new wz (.cells #[] 36)
                have hT := hRz.take es.length
                have hRd1 : Hid (co = es.length → RdE wz (some ⟨g, 0, none⟩) (es.drop es.length)) := fun h => by
                  have h2 := hRz.drop (n := 0 + es.length) es.length co (by omega) rfl
                  rwa [if_pos h] at h2
                have hRd2 : Hid (¬ co = es.length → RdE wz (some ⟨g, es.length, none⟩) (es.drop es.length)) := fun h => by
                  have h2 := hRz.drop (n := 0 + es.length) es.length co (by omega) rfl
                  rwa [if_neg h, Nat.zero_add] at h2
                have htl : es.length = (es.take es.length).length := by rw [List.length_take]; omega
                have hdl : es.length - es.length = (es.drop es.length).length := by rw [List.length_drop]
                have ht5 : (es.take es.length).length ≤ 30 := by rw [List.length_take]; omega
                have hd5 : (es.drop es.length).length ≤ 30 := by rw [List.length_drop]; omega
                have HTL := hide htl
                have HDL := hide hdl
                clear htl hdl hRz
                have HR1 : Hid (co = es.length → RdE wz (some ⟨g, 0, none⟩) (es.drop es.length)) := hRd1
                clear hRd1
                by_cases hck : co = es.length
                all_goals
                 try subst hck
                 go_wp2_with (first
                  | (at_builtin; refine wpList_appE wz.heap.size _ rfl (.tmp 53) (.tmp 56) rfl _ [] (es.take es.length) rfl (by exact hO0) hE0'.size (some ⟨g, 0, none⟩) es.length _ HTL.out rfl (hT.ext hE0') (by rw [List.length_nil]; omega) ?_; intro v1 w1 hO1 hg1 _; have hE1 : Ext wz w1 := Ext.grown hE0' hg1 (ownsRow_block hO0))
                  | (at_builtin; refine wpList_oneE wz.heap.size (w1.alloc _) rfl (.tmp 58) (.tmp 62) rfl _ (es.take es.length) ⟨some ⟨w1.heap.size, 0, none⟩, 2, 2, [(j : Int), (b : Int)]⟩ rfl (by exact hO1.ext (Ext.new _ _)) (hE1.alloc _).size (w1.heap.size + 1) (by simp) rfl (by omega) ?_; intro v2 w2 hO2 hg2; have hE2 : Ext wz w2 := Ext.grown (hE1.alloc _) hg2 (ownsRow_block hO1))
                  | (at_builtin; refine wpList_appE wz.heap.size _ rfl (.tmp 64) (.tmp 67) rfl _ (es.take es.length ++ [⟨some ⟨w1.heap.size, 0, none⟩, 2, 2, [(j : Int), (b : Int)]⟩]) (es.drop es.length) rfl (by exact hO2) hE2.size _ _ _ (by rw [List.length_drop]; omega) rfl ((HR1.out rfl).ext hE2) (by rw [List.length_append, List.length_singleton]; omega) ?_; intro v3 w3 hO3 hg3 _)
                  | (at_builtin; refine wpList_appE wz.heap.size _ rfl (.tmp 64) (.tmp 67) rfl _ (es.take es.length ++ [⟨some ⟨w1.heap.size, 0, none⟩, 2, 2, [(j : Int), (b : Int)]⟩]) (es.drop es.length) rfl (by exact hO2) hE2.size _ _ _ (by rw [List.length_drop]; omega) rfl ((hRd2.out (by omega)).ext hE2) (by rw [List.length_append, List.length_singleton]; omega) ?_; intro v3 w3 hO3 hg3 _))
                 all_goals
                   have hE3 : Ext wz w3 := Ext.grown hE2 hg3 (ownsRow_block hO2)
                   have hF := ent_ins es.length hwz2.size hENz.out hE3 hE1 hO1 hg2 hO2 hg3
                   have hE4 : Ext wb w3 := hwz2.trans hE3
                   refine ⟨⟨b + 1, by omega, by go_num, hide (PrsS.of ⟨hO3.base hwz2.size, hF⟩ (by simp) ?_), hE4⟩, by simp [intOf]; omega⟩
                   rw [HNX.out, ← List.append_assoc, ← H2.out, List.append_assoc, List.singleton_append, List.map_append, List.map_append, List.map_cons, List.map_cons]
        · have hbn : b = n := by omega
          have HN : Hid (PrsS wr wb.heap.size _ (sortD (margP vs) (prAll n vs (j + 1)))) := hide (by rw [prAll]; rw [hbn] at hown; exact hown.out)
          go_wp2
          exact ⟨⟨j + 1, by omega, by go_num, HN, hwr⟩, by simp [intOf]; omega⟩
    · have hjn : j = n := by omega
      rw [hjn] at hown
      have HO := hide (hown.out)
      go_wp2
      go_ret
      exact ⟨_, rfl, by
        obtain ⟨es, g, c, hv, hc, hl, hm⟩ := HO.out
        exact ⟨es, g, c, hv, hc, hl.base hE0.size, hm⟩, hE0.trans hwr⟩

set_option maxRecDepth 100000 in
theorem RdE.grown {w w' : World} {g : Nat} {es : List RowE} {row : Option Nat} (h : RdE w (some ⟨g, 0, none⟩) es) (hg : w.grownBy w' row) (hr : row ≠ some g) : RdE w' (some ⟨g, 0, none⟩) es := fun hne => by
  obtain ⟨b, off, e, hc⟩ := h hne
  injection e with e
  injection e with e1 e2
  subst e1 e2
  refine ⟨g, 0, rfl, fun j x hx => ?_⟩
  have := hc j x hx
  exact (World.cell?_of_block (w := w) (hg.block g (World.block_lt_of_cell? w _ this) (fun e => hr e.symm))).trans this

set_option maxRecDepth 100000 in
set_option maxHeartbeats 4000000 in
theorem lok_spec (w : World) (sz : Int) (a : Option Addr) (c : Nat) (vs : List Vt) (hR : RdV w a vs) :
    Calls Tryz.prog 206 #[.agg #[.int .i64 sz, .slice a vs.length c]] w fun e w' => ∃ v, e = .returned v ∧ OwnSS w' w.heap.size v (lokO sz vs) ∧ Ext w w' := by
  have q0 := new0 w (.int .i64 sz) [.slice a vs.length c] 29
  have q1 := new1 w (.int .i64 sz) (.slice a vs.length c) [] 29
  cases h0 : profOk sz vs
  · go_enter Tryz.func206, Tryz.ntmps206
    go_wp2_with (go_at_call 127; refine (prof_spec _ _ _ _ _ (hR.ext (by repeat (first | exact Ext.refl _ | assumption | refine Ext.alloc ?_ _ | refine Ext.drew ?_ | refine Ext.trans ?_ (by assumption))))).mono ?_; rintro e w1 ⟨rfl, hw1⟩; have q0 := Ext.keep (w' := w1) (by repeat (first | exact Ext.refl _ | assumption | refine Ext.alloc ?_ _ | refine Ext.drew ?_ | refine Ext.trans ?_ (by assumption))) q0; have q1 := Ext.keep (w' := w1) (by repeat (first | exact Ext.refl _ | assumption | refine Ext.alloc ?_ _ | refine Ext.drew ?_ | refine Ext.trans ?_ (by assumption))) q1)
    go_ret
    exact ⟨_, rfl, by simp [lokO, h0]; exact OwnSS.nil _ _, (by repeat (first | exact Ext.refl _ | assumption | refine Ext.alloc ?_ _ | refine Ext.drew ?_ | refine Ext.trans ?_ (by assumption)))⟩
  obtain ⟨n, rfl, n1, n2⟩ := prof_nat h0
  have HL0 : Hid (lokO n vs = lockL (srtP n vs)) := hide (by simp [lokO, h0])
  go_enter Tryz.func206, Tryz.ntmps206
  go_wp2_with (go_at_call 127; refine (prof_spec _ _ _ _ _ (hR.ext (by repeat (first | exact Ext.refl _ | assumption | refine Ext.alloc ?_ _ | refine Ext.drew ?_ | refine Ext.trans ?_ (by assumption))))).mono ?_; rintro e w1 ⟨rfl, hw1⟩; have q0 := Ext.keep (w' := w1) (by repeat (first | exact Ext.refl _ | assumption | refine Ext.alloc ?_ _ | refine Ext.drew ?_ | refine Ext.trans ?_ (by assumption))) q0; have q1 := Ext.keep (w' := w1) (by repeat (first | exact Ext.refl _ | assumption | refine Ext.alloc ?_ _ | refine Ext.drew ?_ | refine Ext.trans ?_ (by assumption))) q1)
  have hw : Ext w w1 := (by repeat (first | exact Ext.refl _ | assumption | refine Ext.alloc ?_ _ | refine Ext.drew ?_ | refine Ext.trans ?_ (by assumption)))
  obtain ⟨wb, hwb⟩ : ∃ wb : World, wb = w1 := ⟨_, rfl⟩
  subst hwb
  have hOo := RowsE.made0 wb
  have hEo := Ext.new wb (.cells #[] 36)
  have hEo' : wb.heap.size < (wb.alloc (.cells #[] 36)).heap.size := by simp
  generalize wb.alloc (.cells #[] 36) = W0 at hOo hEo hEo' ⊢
  have q0 := hEo.keep q0
  have q1 := hEo.keep q1
  clear hw1
  go_wp2_with fail
  refine (prs_spec _ n a c vs (hR.ext (hw.trans hEo)) h0 n2).mono ?_
  rintro e w2 ⟨v, rfl, hp, hw2⟩
  obtain ⟨ES, g, cc, rfl, hcc, ⟨hrows0, hent⟩, hmapS⟩ := hp
  have HMS := hide hmapS
  have HRE := hide hrows0.rdE
  have HSN : Hid (ES.length ≤ 25) := hide (by
    have h1 := srtP_len n vs
    rw [← hmapS, List.length_map] at h1
    have h2 : n * n ≤ 5 * 5 := Nat.mul_le_mul n2 n2
    omega)
  have HPE : Hid (∀ e ∈ ES, ∃ x y : Nat, x < n ∧ y < n ∧ e.xs = [(x : Int), (y : Int)]) := fun e he => by
    have h1 : e.xs ∈ ES.map RowE.xs := List.mem_map_of_mem he
    rw [hmapS] at h1
    exact (srtP_mem h1).1
  have HML : Hid ((ES.map RowE.xs).length = ES.length) := List.length_map _
  have hs0 := hEo.size
  have HE := hide (hent.base hs0)
  have hOo2 := hOo.ext hw2
  have hbE : Ext wb w2 := hEo.trans hw2
  have HGG : Hid (g < w2.heap.size ∧ (Value.slice (some ⟨wb.heap.size, 0, none⟩) 0 0).ownBlock ≠ some g) := hide (by
    have h1 := World.ownsRow.lt hrows0 g rfl
    refine ⟨h1.2, fun e => ?_⟩
    have e2 : (some wb.heap.size : Option Nat) = some g := e
    injection e2 with e2
    have := hEo'
    omega)
  clear hmapS hrows0 hent hOo q0 q1 h0
  obtain ⟨wc, hwc⟩ : ∃ wc : World, wc = w2 := ⟨_, rfl⟩
  subst hwc
  go_wp2_with fail
  go_loopw [3, 5, 13] (fun v _ i wr => ∃ (k : Nat) (ks : List RowE), k ≤ ES.length ∧ i = .int .i64 k ∧ RowsE wr wb.heap.size v ks ∧ EntE wr wb.heap.size (ES) ∧ RdE wr (some ⟨g, 0, none⟩) ES ∧ Hid (g < wr.heap.size ∧ v.ownBlock ≠ some g) ∧ Hid (ks.Sublist (ES.take k)) ∧ Hid (ks.map RowE.xs = lockL ((ES.map RowE.xs).take k)) ∧ Ext wb wr) (fun _ _ i _ => ES.length - (intOf i).toNat)
  case atStart => exact ⟨0, [], Nat.zero_le _, rfl, hOo2, HE.out, HRE.out, HGG, hide (by simp), hide (by simp [lockL]), hbE⟩
  case round =>
    clear hOo2 HE HRE HGG
    obtain ⟨k, ks, hk, rfl, hrows, hEr, hRE, hgg, hsub, hmap, hwr⟩ := hrel
    have hSN := HSN.out
    by_cases hkt : k < ES.length
    · obtain ⟨e, he⟩ := at_of_lt hkt
      have hem := List.mem_of_getElem? he
      obtain ⟨b, off, hb0, hcell⟩ := hRE (ne_of_at he)
      injection hb0 with hb0
      injection hb0 with hb1 hb2
      subst hb1
      subst hb2
      have d0 := hcell k e he
      rw [Nat.zero_add] at d0
      obtain ⟨x, y, hx, hy, hxy⟩ := HPE.out e hem
      have hRx := (hEr.rd hem).1
      have hnx := (hEr.rd hem).2
      rw [hxy] at hRx hnx
      have hnx : e.n = 2 := hnx
      have hat : (ES.map RowE.xs)[k]? = some [(x : Int), (y : Int)] := by rw [List.getElem?_map, he, Option.map_some, hxy]
      have HLK := hide (lockL_at hat)
      have HTK : Hid (ES.take (k + 1) = ES.take k ++ [e]) := take_at he
      have hkl : ks.length ≤ 25 := by
        have h1 := hsub.out.length_le
        rw [List.length_take] at h1
        omega
      have hOS := RowsE.own hrows (hEr.sub (hsub.out.trans (List.take_sublist k ES)))
      have hRd := hOS.wr.rd
      rw [hmap.out] at hRd
      have hkn : (lockL ((ES.map RowE.xs).take k)).length ≤ 1000 := by rw [← hmap.out, List.length_map]; omega
      have hpr : ∀ z ∈ lockL ((ES.map RowE.xs).take k), PairN n z := fun z hz => by
        rw [← hmap.out] at hz
        obtain ⟨e', he', rfl⟩ := List.mem_map.1 hz
        exact HPE.out e' (List.mem_of_mem_take (hsub.out.subset he'))
      have HC := hide (fun w' (hw' : Ext wr w') => way_spec w' _ _ _ n n2 y x hy (hRd.ext hw') hpr hkn)
      have hw0 : p1 [(x : Int), (y : Int)] = y := rfl
      have hw1 : p0 [(x : Int), (y : Int)] = x := rfl
      unfold lockS at HLK
      rw [hw0, hw1] at HLK
      clear hpr hkn hOS hat hw0 hw1 hRd
      obtain ⟨b1, o1, hb1, d1, d2⟩ := hRx.two
      rw [rowV, hb1, hnx] at d0
      have HRW := hide hrows
      have HER := hide hEr
      have HRE := hide hRE
      clear hrows hEr hRE he
      cases hq : wayB (lockL ((ES.map RowE.xs).take k)) y x
      · rw [hq, if_neg (by decide)] at HLK
        rw [hq] at HC
        go_wp2
        refine wp_region_X (by kernel_rfl) (by kernel_rfl) ?_
        repeat' (refine wpX_stepQ (fun K hK => ?_)
                 go_simp
                 try (rw [if_neg (by intro h; simp [undef] at h)])
                 try split
                 all_goals
                   first
                   | (refine hK _ ?_
                      clear hK K)
                   | (apply Exists.intro
                      refine ⟨fun wq hwq => ?_, hK _ ?_⟩
                      · have hcq := hwq.cellS
                        go_simp
                        first
                        | exact ⟨Ext.refl _, rfl⟩
                        | exact ⟨Ext.refl _, HC.out _ (by repeat (first | exact Ext.refl _ | assumption | refine Ext.alloc ?_ _ | refine Ext.drew ?_ | refine Ext.trans ?_ (by assumption)))⟩
                      clear hK K))
        refine wpX_nil (fun wz hwz => ?_)
        have hE5 := hwz.alloc (.cells #[rowV e] 36)
        have hbx := RdE.box wz e
        unfold rowV at hbx hE5
        rw [hb1, hnx] at hbx hE5
        have hrz := HRW.out.ext hE5
        have hez := HER.out.ext hE5
        have hrez := HRE.out.ext hE5
        have hwz5 := hwr.trans hE5
        have hg5 := hgg.out
        have hs5 := hE5.size
        go_wp2_with (at_builtin; go_loud (refine wpList_appE wb.heap.size _ rfl (.tmp 26) (.tmp 28) rfl _ ks [e] rfl (by exact hrz) hwz5.size _ _ _ rfl rfl hbx (by simp; omega) ?_); intro v' w4 h4 hg4 hf4)
        have hE6 : Ext wb w4 := Ext.grown hwz5 hg4 (ownsRow_block hrz)
        refine ⟨⟨k + 1, ks ++ [e], by omega, by go_num, h4, hez.grown hg4 (rows_ne hrz hez), hrez.grown hg4 hg5.2, hide ⟨by have := hg4.size; omega, ?_⟩, hide (by rw [HTK.out]; exact hsub.out.append (List.Sublist.refl _)), hide (by rw [HLK.out, List.map_append, hmap.out]; simp [hxy]), hE6⟩, by simp [intOf]; omega⟩
        rcases hf4 with hf4 | hf4
        · rw [hf4]; exact hg5.2
        · intro e5
          have := hf4 _ e5
          omega
      · rw [hq, if_pos rfl] at HLK
        rw [hq] at HC
        go_wp2
        refine wp_region_X (by kernel_rfl) (by kernel_rfl) ?_
        repeat' (refine wpX_stepQ (fun K hK => ?_)
                 go_simp
                 try (rw [if_neg (by intro h; simp [undef] at h)])
                 try split
                 all_goals
                   first
                   | (refine hK _ ?_
                      clear hK K)
                   | (apply Exists.intro
                      refine ⟨fun wq hwq => ?_, hK _ ?_⟩
                      · have hcq := hwq.cellS
                        go_simp
                        first
                        | exact ⟨Ext.refl _, rfl⟩
                        | exact ⟨Ext.refl _, HC.out _ (by repeat (first | exact Ext.refl _ | assumption | refine Ext.alloc ?_ _ | refine Ext.drew ?_ | refine Ext.trans ?_ (by assumption)))⟩
                      clear hK K))
        refine wpX_nil (fun wz hwz => ?_)
        go_wp2
        exact ⟨⟨k + 1, ks, by omega, by go_num, HRW.out.ext hwz, HER.out.ext hwz, HRE.out.ext hwz, hide ⟨Nat.lt_of_lt_of_le hgg.out.1 hwz.size, hgg.out.2⟩, hide (by rw [HTK.out]; exact hsub.out.trans (List.sublist_append_left _ _)), hide (by rw [HLK.out, hmap.out]), hwr.trans hwz⟩, by simp [intOf]; omega⟩
    · have hkn : k = ES.length := by omega
      have HF : Hid (ks.map RowE.xs = lokO n vs) := hide (by rw [hmap.out, HL0.out, ← HMS.out, hkn, List.take_of_length_le (by rw [HML.out]; exact Nat.le_refl _)])
      have hOS := RowsE.own hrows (hEr.sub (hsub.out.trans (List.take_sublist k ES)))
      rw [HF.out] at hOS
      go_wp2
      go_ret
      exact ⟨_, rfl, hOS.base hw.size, hw.trans hwr⟩

end Go.Proofs.YtilcdnkkabmbfaaGreat
