/- ApprovalScores of both packages. -/
import Derived.Test.YtdkkmhncdlaphaaMem
import Derived.Test.YtdkkmhncdlaphaaSeats
namespace Go.Proofs.Ytdkkmhncdlaphaa
open Go.RowKit

/-- The weight of the ballots whose set has a property. -/
def sumIf (p : Int → Bool) (bs : List (Int × Int)) : Int := ((bs.filter (fun x => p x.1)).map Prod.snd).sum
theorem sumIf_at {p : Int → Bool} {bs : List (Int × Int)} {k : Nat} {x : Int × Int} (hx : bs[k]? = some x) : sumIf p (bs.take (k + 1)) = sumIf p (bs.take k) + if p x.1 then x.2 else 0 := by
  rw [take_at hx]
  unfold sumIf
  rw [List.filter_append, List.map_append, List.sum_append]
  cases h : p x.1 <;> simp [h]
def Small (bs : List (Int × Int)) : Prop := bs.length ≤ 12 ∧ ∀ x ∈ bs, 0 ≤ x.1 ∧ x.1 ≤ 63 ∧ 1 ≤ x.2 ∧ x.2 ≤ 1000
theorem small_of {sz : Int} {bs : List (Int × Int)} (h : appOk sz bs = true) : Small bs := ⟨ok_len h, fun x hx => by have := ok_at h hx; omega⟩
theorem sumIf_bd {p : Int → Bool} {bs : List (Int × Int)} (h : Small bs) : ∀ k : Nat, k ≤ bs.length → 0 ≤ sumIf p (bs.take k) ∧ sumIf p (bs.take k) ≤ 1000 * k
  | 0, _ => by simp [sumIf]
  | k + 1, hk => by
    obtain ⟨x, hx⟩ := at_of_lt (xs := bs) (k := k) (by omega)
    have h1 := sumIf_bd h k (by omega) (p := p)
    have h2 := h.2 x (List.mem_of_getElem? hx)
    rw [sumIf_at hx]
    split <;> omega

set_option maxHeartbeats 1000000 in
theorem voters_impl (K : Nat) (fst cap : Array Value) (p : Int → Bool) (w : World) (sz : Int) (a : Option Addr) (c : Nat) (bs : List (Int × Int)) (hR : RdP w a bs) (hS : Small bs) (hK : Enters Try.prog K)
    (hf : ∀ (x : Int × Int) (w' : World), x ∈ bs → Ext w w' → Calls Try.prog K (fst.push (.int .i64 x.1) ++ cap) w' fun e w'' => e = .returned (.bool (p x.1)) ∧ Ext w' w'') :
    Calls Try.prog 51 #[.agg #[.int .i64 sz, .slice a bs.length c], .func (.func K) fst cap] w fun e w' => e = .returned (.int .i64 (sumIf p bs)) ∧ Ext w w' := by
  unfold Enters at hK
  have HF := hide hf
  clear hf
  have HS := hide hS
  have hl := hS.1
  clear hS
  go_enter Try.func51, Try.ntmps51
  go_wp2_with fail
  go_loopw [5, 7, 11] (fun s _ i wr => ∃ k : Nat, k ≤ bs.length ∧ i = .int .i64 k ∧ s = .int .i64 (sumIf p (bs.take k)) ∧ Ext w wr) (fun _ _ i _ => bs.length - (intOf i).toNat)
  case atStart => exact ⟨0, Nat.zero_le _, rfl, rfl, (by repeat (first | exact Ext.refl _ | assumption | refine Ext.alloc ?_ _ | refine Ext.drew ?_ | refine Ext.trans ?_ (by assumption)))⟩
  case round =>
    obtain ⟨k, hk, rfl, rfl, hwr⟩ := hrel
    obtain ⟨b1, b2⟩ := sumIf_bd HS.out k hk (p := p)
    by_cases hlt : k < bs.length
    · obtain ⟨x, hx⟩ := at_of_lt hlt
      obtain ⟨b, off, rfl, c0, c1⟩ := (hR.ext hwr).at_ hx
      obtain ⟨_, _, x1, x2⟩ := HS.out.2 x (List.mem_of_getElem? hx)
      have HX := hide hx
      clear hx
      cases hp : p x.1
      all_goals
        go_wp2_with fail
        refine (HF.out x _ (List.mem_of_getElem? HX.out) (by repeat (first | exact Ext.refl _ | assumption | refine Ext.alloc ?_ _ | refine Ext.drew ?_ | refine Ext.trans ?_ (by assumption)))).mono ?_
        rintro e w1 ⟨rfl, hw1⟩
        have e1 := hw1.keep (new1 wr _ _ _ _)
        go_wp2
      · exact ⟨⟨k + 1, by omega, by go_num, by rw [sumIf_at HX.out, hp]; simp, (by repeat (first | exact Ext.refl _ | assumption | refine Ext.alloc ?_ _ | refine Ext.drew ?_ | refine Ext.trans ?_ (by assumption)))⟩, by simp [intOf]; omega⟩
      · exact ⟨⟨k + 1, by omega, by go_num, by rw [sumIf_at HX.out, hp]; simp, (by repeat (first | exact Ext.refl _ | assumption | refine Ext.alloc ?_ _ | refine Ext.drew ?_ | refine Ext.trans ?_ (by assumption)))⟩, by simp [intOf]; omega⟩
    · go_wp2
      go_ret
      exact ⟨ret_int (by rw [List.take_of_length_le (by omega)]), hwr⟩

theorem bit_impl {s : Int} (h0 : 0 ≤ s) (h63 : s ≤ 63) {k : Nat} (h : k < 6) : (bits BinOp.and IntKind.i64 (s / 2 ^ k) 1 == 1) = bitAt s k := by
  refine sets (p := fun s => (bits BinOp.and IntKind.i64 (s / 2 ^ k) 1 == 1) = bitAt s k) (fun n hn => ?_) h0 h63
  have : k = 0 ∨ k = 1 ∨ k = 2 ∨ k = 3 ∨ k = 4 ∨ k = 5 := by omega
  rcases this with rfl | rfl | rfl | rfl | rfl | rfl <;> revert n <;> decide

set_option maxHeartbeats 1000000 in
theorem scoreOne (w : World) (s : Int) (h0 : 0 ≤ s) (h63 : s ≤ 63) (b off k : Nat) (hk : k < 6) (hc : w.cell? ⟨b, off, none⟩ = some (.int .i64 (k : Int))) :
    Calls Try.prog 52 #[.int .i64 s, .pointer (some ⟨b, off, none⟩)] w fun e w' => e = .returned (.bool (bitAt s k)) ∧ Ext w w' := by
  have hb := bit_impl h0 h63 hk
  go_enter Try.func52, Try.ntmps52
  go_wp2
  go_ret
  exact ⟨rfl, Ext.refl _⟩

def scoresTo (bs : List (Int × Int)) (k : Nat) : List Int := (List.range k).map (fun a => sumIf (fun s => bitAt s a) bs)
theorem scoresTo_succ (bs : List (Int × Int)) (k : Nat) : scoresTo bs (k + 1) = scoresTo bs k ++ [sumIf (fun s => bitAt s k) bs] := by simp [scoresTo, List.range_succ]
theorem scoresTo_len (bs : List (Int × Int)) (k : Nat) : (scoresTo bs k).length = k := by simp [scoresTo]
def scoresOf (sz : Int) (bs : List (Int × Int)) : List Int := if appOk sz bs then scoresTo bs sz.toNat else []

set_option maxHeartbeats 2000000 in
theorem scores_impl (w : World) (sz : Int) (a : Option Addr) (c : Nat) (bs : List (Int × Int)) (hR : RdP w a bs) :
    Calls Try.prog 18 #[.agg #[.int .i64 sz, .slice a bs.length c]] w fun e w' => ∃ v, e = .returned v ∧ OwnI w' w.heap.size v (scoresOf sz bs) ∧ Ext w w' := by
  have q0 := new0 w (.int .i64 sz) [.slice a bs.length c] 29
  have q1 := new1 w (.int .i64 sz) (.slice a bs.length c) [] 29
  cases h1 : appOk sz bs
  · go_enter Try.func18, Try.ntmps18
    go_wp2_with (go_at_call 46; refine (ok_impl _ _ _ _ _ (hR.ext (by repeat (first | exact Ext.refl _ | assumption | refine Ext.alloc ?_ _ | refine Ext.drew ?_ | refine Ext.trans ?_ (by assumption))))).mono ?_; rintro e w1 ⟨rfl, hw1⟩; have q0 := Ext.keep (w' := w1) (by repeat (first | exact Ext.refl _ | assumption | refine Ext.alloc ?_ _ | refine Ext.drew ?_ | refine Ext.trans ?_ (by assumption))) q0; have q1 := Ext.keep (w' := w1) (by repeat (first | exact Ext.refl _ | assumption | refine Ext.alloc ?_ _ | refine Ext.drew ?_ | refine Ext.trans ?_ (by assumption))) q1)
    go_ret
    exact ⟨_, rfl, by simp [scoresOf, h1]; exact OwnI.nil _ _, (by repeat (first | exact Ext.refl _ | assumption | refine Ext.alloc ?_ _ | refine Ext.drew ?_ | refine Ext.trans ?_ (by assumption)))⟩
  obtain ⟨n, rfl⟩ : ∃ n : Nat, sz = (n : Int) := ⟨sz.toNat, by have := ok_size h1; omega⟩
  obtain ⟨hlo, hhi⟩ := ok_size h1
  have hS := small_of h1
  go_enter Try.func18, Try.ntmps18
  go_wp2_with (go_at_call 46; refine (ok_impl _ _ _ _ _ (hR.ext (by repeat (first | exact Ext.refl _ | assumption | refine Ext.alloc ?_ _ | refine Ext.drew ?_ | refine Ext.trans ?_ (by assumption))))).mono ?_; rintro e w1 ⟨rfl, hw1⟩; have q0 := Ext.keep (w' := w1) (by repeat (first | exact Ext.refl _ | assumption | refine Ext.alloc ?_ _ | refine Ext.drew ?_ | refine Ext.trans ?_ (by assumption))) q0; have q1 := Ext.keep (w' := w1) (by repeat (first | exact Ext.refl _ | assumption | refine Ext.alloc ?_ _ | refine Ext.drew ?_ | refine Ext.trans ?_ (by assumption))) q1)
  have hw : Ext w w1 := (by repeat (first | exact Ext.refl _ | assumption | refine Ext.alloc ?_ _ | refine Ext.drew ?_ | refine Ext.trans ?_ (by assumption)))
  clear hw1
  go_loopw [3, 4, 10] (fun v _ i wr => ∃ k : Nat, k ≤ n ∧ i = .int .i64 k ∧ OwnI wr w1.heap.size v (scoresTo bs k) ∧ Ext w1 wr) (fun _ _ i _ => n - (intOf i).toNat)
  case atStart => exact ⟨0, Nat.zero_le _, rfl, OwnI.nil _ _, Ext.refl _⟩
  case round =>
    obtain ⟨k, hk, rfl, hown, hwr⟩ := hrel
    have q0 := hwr.keep q0
    have q1 := hwr.keep q1
    by_cases hlt : k < n
    · have HV := hide (fun (w' : World) (hw' : Ext (wr.alloc (.cells #[.int .i64 (k : Int)] 3)) w') =>
        voters_impl 52 #[] #[.pointer (some ⟨wr.heap.size, 0, none⟩)] (fun s => bitAt s k) w' n a c bs (hR.ext (by repeat (first | exact Ext.refl _ | assumption | refine Ext.alloc ?_ _ | refine Ext.drew ?_ | refine Ext.trans ?_ (by assumption)))) hS (fun _ _ => Try.call52 _ _)
          (fun x w2 hx hw2 => scoreOne w2 x.1 (hS.2 x hx).1 (hS.2 x hx).2.1 wr.heap.size 0 k (by omega) (hw2.keep (hw'.keep (new0 wr _ _ _)))))
      go_wp2_with fail
      refine (HV.out _ (Ext.refl _)).mono ?_
      rintro e w2 ⟨rfl, hw2⟩
      go_wp2_with (at_builtin; refine wpList_appI w1 _ rfl _ _ rfl _ (scoresTo bs k) _ rfl (hown.ext (by repeat (first | exact Ext.refl _ | assumption | refine Ext.alloc ?_ _ | refine Ext.drew ?_ | refine Ext.trans ?_ (by assumption)))) (by repeat (first | exact Ext.refl _ | assumption | refine Ext.alloc ?_ _ | refine Ext.drew ?_ | refine Ext.trans ?_ (by assumption))) rfl (by rw [scoresTo_len]; omega) ?_; intro v' w3 hown3 hw3)
      exact ⟨⟨k + 1, by omega, by go_num, by rw [scoresTo_succ]; exact hown3, hw3⟩, by simp [intOf]; omega⟩
    · obtain rfl : k = n := by omega
      go_wp2
      go_ret
      exact ⟨_, rfl, by simp [scoresOf, h1]; exact hown.base hw.size, hw.trans hwr⟩

/-- The table of scores while candidate k is counted over m ballots. -/
def tab (bs : List (Int × Int)) (k m : Nat) (j : Nat) : Value := .int .i64 (if j < k then sumIf (fun s => bitAt s j) bs else if j = k then sumIf (fun s => bitAt s j) (bs.take m) else 0)
theorem tab_zero (bs : List (Int × Int)) (j : Nat) : tab bs 0 0 j = .int .i64 0 := by
  unfold tab
  rw [if_neg (by omega)]
  split <;> simp [sumIf]
theorem tab_done (bs : List (Int × Int)) (k : Nat) (j : Nat) : tab bs k bs.length j = tab bs (k + 1) 0 j := by
  unfold tab
  by_cases h1 : j < k
  · rw [if_pos h1, if_pos (by omega)]
  · by_cases h2 : j = k
    · subst h2; rw [if_neg h1, if_pos rfl, if_pos (by omega), List.take_of_length_le (Nat.le_refl _)]
    · rw [if_neg h1, if_neg h2, if_neg (by omega)]
      split <;> simp [sumIf]
theorem tab_at (bs : List (Int × Int)) (k m : Nat) : tab bs k m k = .int .i64 (sumIf (fun s => bitAt s k) (bs.take m)) := by
  unfold tab
  rw [if_neg (by omega), if_pos rfl]
theorem tab_far (bs : List (Int × Int)) (k m m' : Nat) {j : Nat} (h : j ≠ k) : tab bs k m j = tab bs k m' j := by
  unfold tab
  rw [if_neg h, if_neg h]

set_option maxRecDepth 100000 in
set_option maxHeartbeats 4000000 in
theorem scores_spec (w : World) (sz : Int) (a : Option Addr) (c : Nat) (bs : List (Int × Int)) (hR : RdP w a bs) :
    Calls Try.prog 17 #[.agg #[.int .i64 sz, .slice a bs.length c]] w fun e w' => ∃ v, e = .returned v ∧ FrI w' w.heap.size v (scoresOf sz bs) ∧ Ext w w' := by
  have q0 := new0 w (.int .i64 sz) [.slice a bs.length c] 29
  have q1 := new1 w (.int .i64 sz) (.slice a bs.length c) [] 29
  cases h1 : appOk sz bs
  · go_enter Try.func17, Try.ntmps17
    go_wp2_with (go_at_call 42; refine (ok_spec _ _ _ _ _ (hR.ext (by repeat (first | exact Ext.refl _ | assumption | refine Ext.alloc ?_ _ | refine Ext.drew ?_ | refine Ext.trans ?_ (by assumption))))).mono ?_; rintro e w1 ⟨rfl, hw1⟩; have q0 := Ext.keep (w' := w1) (by repeat (first | exact Ext.refl _ | assumption | refine Ext.alloc ?_ _ | refine Ext.drew ?_ | refine Ext.trans ?_ (by assumption))) q0; have q1 := Ext.keep (w' := w1) (by repeat (first | exact Ext.refl _ | assumption | refine Ext.alloc ?_ _ | refine Ext.drew ?_ | refine Ext.trans ?_ (by assumption))) q1)
    go_ret
    exact ⟨_, rfl, by simp [scoresOf, h1]; exact FrI.nil _ _ _ _, (by repeat (first | exact Ext.refl _ | assumption | refine Ext.alloc ?_ _ | refine Ext.drew ?_ | refine Ext.trans ?_ (by assumption)))⟩
  obtain ⟨n, rfl⟩ : ∃ n : Nat, sz = (n : Int) := ⟨sz.toNat, by have := ok_size h1; omega⟩
  obtain ⟨hlo, hhi⟩ := ok_size h1
  have hS := small_of h1
  have hl := hS.1
  have HS := hide hS
  clear hS
  obtain ⟨i0, hi, hz0, hz1, hz2⟩ := info_parts info_int
  have hmk := fun W => run_make_rowN (P := Try.prog) 33 3 i0 _ Try.underlying33 hi hz0 .i64 .i64 n n (Nat.le_refl _) (by rw [hz2]; omega) (by omega) W
  rw [hz1] at hmk
  go_enter Try.func17, Try.ntmps17
  go_wp2_with (go_at_call 42; refine (ok_spec _ _ _ _ _ (hR.ext (by repeat (first | exact Ext.refl _ | assumption | refine Ext.alloc ?_ _ | refine Ext.drew ?_ | refine Ext.trans ?_ (by assumption))))).mono ?_; rintro e w1 ⟨rfl, hw1⟩; have q0 := Ext.keep (w' := w1) (by repeat (first | exact Ext.refl _ | assumption | refine Ext.alloc ?_ _ | refine Ext.drew ?_ | refine Ext.trans ?_ (by assumption))) q0; have q1 := Ext.keep (w' := w1) (by repeat (first | exact Ext.refl _ | assumption | refine Ext.alloc ?_ _ | refine Ext.drew ?_ | refine Ext.trans ?_ (by assumption))) q1)
  have hw : Ext w w1 := (by repeat (first | exact Ext.refl _ | assumption | refine Ext.alloc ?_ _ | refine Ext.drew ?_ | refine Ext.trans ?_ (by assumption)))
  clear hw1 hmk
  go_loopw [4, 6, 15, 17, 18, 19, 20, 21] (fun _ _ i _ _ _ _ _ wr => ∃ k : Nat, k ≤ n ∧ i = .int .i64 k ∧ BlkF wr w1.heap.size n (tab bs k 0) ∧ Ext w1 wr) (fun _ _ i _ _ _ _ _ _ => n - (intOf i).toNat)
  case atStart =>
    refine ⟨0, Nat.zero_le _, rfl, ?_, (by repeat (first | exact Ext.refl _ | assumption | refine Ext.alloc ?_ _ | refine Ext.drew ?_ | refine Ext.trans ?_ (by assumption)))⟩
    have h := BlkF.new w1 (madeCells (Value.int .i64 0).cells n) 3
    rw [size_madeCells] at h
    exact h.congr (f' := tab bs 0 0) (fun o ho => by rw [tab_zero, made_int n o ho])
  case round =>
    obtain ⟨k, hk, rfl, hB, hwr⟩ := hrel
    have q0 := hwr.keep q0
    have q1 := hwr.keep q1
    obtain ⟨wo, hwo⟩ : ∃ wo : World, wo = wr := ⟨_, rfl⟩
    subst hwo
    by_cases hlt : k < n
    · have hpw := pow_wrap (k := k) (by omega)
      go_wp2
      go_loopw [6, 21] (fun _ i wr => ∃ m : Nat, m ≤ bs.length ∧ i = .int .i64 m ∧ BlkF wr w1.heap.size n (tab bs k m) ∧ Ext w1 wr) (fun _ i _ => bs.length - (intOf i).toNat)
      case atStart => exact ⟨0, Nat.zero_le _, rfl, hB, hwr⟩
      case round =>
        obtain ⟨m, hm, rfl, hB, hwr⟩ := hrel
        by_cases hmt : m < bs.length
        · obtain ⟨x, hx⟩ := at_of_lt hmt
          obtain ⟨b, off, rfl, c0, c1⟩ := (hR.ext (hw.trans hwr)).at_ hx
          obtain ⟨x0, x1, x2, x3⟩ := HS.out.2 x (List.mem_of_getElem? hx)
          obtain ⟨t0, t1⟩ := sumIf_bd HS.out m hm (p := fun s => bitAt s k)
          have HX := hide hx
          clear hx
          have hbit := bit_spec x0 x1 (k := k) (by omega)
          have d0 := hB.cell k hlt
          rw [tab_at] at d0
          have z0 := hB.fr k
          have hpw2 : IntKind.i64.wrap (2 ^ k) = 2 ^ k := by rw [IntWalk.i64_left]; exact hpw
          cases hbk : bitAt x.1 k
          · go_wp2
            refine wp_region_X (by kernel_rfl) (by kernel_rfl) ?_
            repeat' (refine wpX_stepQ (fun K hK => ?_)
                     go_simp
                     try (rw [if_neg (by intro h; simp [undef] at h)])
                     try split
                     all_goals
                       first
                       | (refine hK _ ?_
                          clear hK K)
                       | (apply Exists.intro
                          refine ⟨fun wq hwq => ?_, hK _ ?_⟩
                          · have hcq := hwq.cellS
                            go_simp
                            first
                            | exact ⟨Ext.refl _, rfl⟩
                          clear hK K))
            refine wpX_nil (fun wz hwz => ?_)
            go_wp2
            exact ⟨⟨m + 1, by omega, by go_num, (hB.ext (by repeat (first | exact Ext.refl _ | assumption | refine Ext.alloc ?_ _ | refine Ext.drew ?_ | refine Ext.trans ?_ (by assumption)))).congr (fun j _ => by
              by_cases e : j = k
              · subst e; rw [tab_at, tab_at, sumIf_at HX.out, hbk]; simp
              · exact tab_far bs k m (m + 1) e), (by repeat (first | exact Ext.refl _ | assumption | refine Ext.alloc ?_ _ | refine Ext.drew ?_ | refine Ext.trans ?_ (by assumption)))⟩, by simp [intOf]; omega⟩
          · go_wp2
            refine wp_region_X (by kernel_rfl) (by kernel_rfl) ?_
            repeat' (refine wpX_stepQ (fun K hK => ?_)
                     go_simp
                     try (rw [if_neg (by intro h; simp [undef] at h)])
                     try split
                     all_goals
                       first
                       | (refine hK _ ?_
                          clear hK K)
                       | (apply Exists.intro
                          refine ⟨fun wq hwq => ?_, hK _ ?_⟩
                          · have hcq := hwq.cellS
                            go_simp
                            first
                            | exact ⟨Ext.refl _, rfl⟩
                          clear hK K))
            refine wpX_nil (fun wz hwz => ?_)
            go_wp2
            have hBz := hB.ext (w' := wz) (by repeat (first | exact Ext.refl _ | assumption | refine Ext.alloc ?_ _ | refine Ext.drew ?_ | refine Ext.trans ?_ (by assumption)))
            have d0 := hBz.cell k hlt
            rw [tab_at] at d0
            have z0 := hBz.fr k
            have e1 := hwz.keep (new1 wr _ _ _ _)
            refine wp_region_X (by kernel_rfl) (by kernel_rfl) ?_
            repeat' (refine wpX_stepQ (fun K hK => ?_)
                     go_simp
                     try (rw [if_neg (by intro h; simp [undef] at h)])
                     try split
                     all_goals
                       first
                       | (refine hK _ ?_
                          clear hK K)
                       | (apply Exists.intro
                          refine ⟨fun wq hwq => ?_, hK _ ?_⟩
                          · have hcq := hwq.cellS
                            go_simp
                            first
                            | exact ⟨Ext.refl _, rfl⟩
                          clear hK K))
            refine wpX_stepL rfl (by kernel_rfl) (by kernel_rfl) (by kernel_rfl) (fun K hK wz hwz => ?_)
            have hcz := hwz.cellS
            have hfz := hwz.frozenS
            go_simp
            refine hK _ _ ?_
            clear hK K
            go_wp2
            refine ⟨⟨m + 1, by omega, by go_num, ((hBz.ext hwz).set k hlt _).congr (fun j _ => ?_), Ext.setCell (Ext.trans (b := wz) (by repeat (first | exact Ext.refl _ | assumption | refine Ext.alloc ?_ _ | refine Ext.drew ?_ | refine Ext.trans ?_ (by assumption))) (Ext.refl _)) (Nat.le_refl _) _⟩, by simp [intOf]; omega⟩
            by_cases e : j = k
            · subst e; rw [if_pos rfl, tab_at, sumIf_at HX.out, hbk]; simp
            · rw [if_neg e]; exact tab_far bs k m (m + 1) e
        · obtain rfl : m = bs.length := by omega
          go_wp2
          exact ⟨⟨k + 1, by omega, by go_num, hB.congr (fun j _ => tab_done bs k j), hwr⟩, by simp [intOf]; omega⟩
    · obtain rfl : k = n := by omega
      go_wp2
      go_ret
      refine ⟨_, rfl, ?_, hw.trans hwr⟩
      have he : scoresOf (k : Int) bs = scoresTo bs k := by simp [scoresOf, h1]
      rw [he]
      refine hB.frI (scoresTo_len bs k) (fun j x hx => ?_) hw.size (Nat.le_refl _)
      have hj := lt_of_at hx
      rw [scoresTo_len] at hj
      unfold tab
      rw [if_pos hj]
      simp only [scoresTo, List.getElem?_map, List.getElem?_range hj, Option.map_some] at hx
      injection hx with hx
      rw [hx]
end Go.Proofs.Ytdkkmhncdlaphaa
