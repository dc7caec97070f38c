/- ApprovalScores of both packages. -/
import Derived.Test.YtacmabdeocmheaaMem
import Derived.Test.YtacmabdeocmheaaSeats
namespace Go.Proofs.Ytacmabdeocmheaa
open Go.RowKit

/-- The weight of the ballots whose set has a property. -/
def sumIf (p : Int → Bool) (bs : List (Int × Int)) : Int := ((bs.filter (fun x => p x.1)).map Prod.snd).sum
set_option maxRecDepth 100000 in
theorem sumIf_at {p : Int → Bool} {bs : List (Int × Int)} {k : Nat} {x : Int × Int} (hx : bs[k]? = some x) : sumIf p (bs.take (k + 1)) = sumIf p (bs.take k) + if p x.1 then x.2 else 0 := by
  rw [take_at hx]
  unfold sumIf
  rw [List.filter_append, List.map_append, List.sum_append]
  cases h : p x.1 <;> simp [h]
def Small (bs : List (Int × Int)) : Prop := bs.length ≤ 12 ∧ ∀ x ∈ bs, 0 ≤ x.1 ∧ x.1 ≤ 63 ∧ 1 ≤ x.2 ∧ x.2 ≤ 1000
set_option maxRecDepth 100000 in
theorem small_of {sz : Int} {bs : List (Int × Int)} (h : appOk sz bs = true) : Small bs := ⟨ok_len h, fun x hx => by have := ok_at h hx; omega⟩
set_option maxRecDepth 100000 in
theorem sumIf_bd {p : Int → Bool} {bs : List (Int × Int)} (h : Small bs) : ∀ k : Nat, k ≤ bs.length → 0 ≤ sumIf p (bs.take k) ∧ sumIf p (bs.take k) ≤ 1000 * k
  | 0, _ => by simp [sumIf]
  | k + 1, hk => by
    obtain ⟨x, hx⟩ := at_of_lt (xs := bs) (k := k) (by omega)
    have h1 := sumIf_bd h k (by omega) (p := p)
    have h2 := h.2 x (List.mem_of_getElem? hx)
    rw [sumIf_at hx]
    split <;> omega

set_option maxRecDepth 100000 in
set_option maxHeartbeats 1000000 in
theorem voters_impl (K : Nat) (fst cap : Array Value) (p : Int → Bool) (w : World) (sz : Int) (a : Option Addr) (c : Nat) (bs : List (Int × Int)) (hR : RdP w a bs) (hS : Small bs) (hK : Enters Try.prog K)
    (hf : ∀ (x : Int × Int) (w' : World), x ∈ bs → Ext w w' → Calls Try.prog K (fst.push (.int .i64 x.1) ++ cap) w' fun e w'' => e = .returned (.bool (p x.1)) ∧ Ext w' w'') :
    Calls Try.prog 158 #[.agg #[.int .i64 sz, .slice a bs.length c], .func (.func K) fst cap] w fun e w' => e = .returned (.int .i64 (sumIf p bs)) ∧ Ext w w' := by
  unfold Enters at hK
  have HF := hide hf
  clear hf
  have HS := hide hS
  have hl := hS.1
  clear hS
  go_enter Try.func158, Try.ntmps158
  go_wp2_with fail
  go_loopw [5, 7, 11] (fun s _ i wr => ∃ k : Nat, k ≤ bs.length ∧ i = .int .i64 k ∧ s = .int .i64 (sumIf p (bs.take k)) ∧ Ext w wr) (fun _ _ i _ => bs.length - (intOf i).toNat)
  case atStart => exact ⟨0, Nat.zero_le _, rfl, rfl, (by repeat (first | exact Ext.refl _ | assumption | refine Ext.alloc ?_ _ | refine Ext.drew ?_ | refine Ext.trans ?_ (by assumption)))⟩
  case round =>
    obtain ⟨k, hk, rfl, rfl, hwr⟩ := hrel
    obtain ⟨b1, b2⟩ := sumIf_bd HS.out k hk (p := p)
    by_cases hlt : k < bs.length
    · obtain ⟨x, hx⟩ := at_of_lt hlt
      obtain ⟨b, off, rfl, c0, c1⟩ := (hR.ext hwr).at_ hx
      obtain ⟨_, _, x1, x2⟩ := HS.out.2 x (List.mem_of_getElem? hx)
      have HX := hide hx
      clear hx
      cases hp : p x.1
      all_goals
        go_wp2_with fail
        refine (HF.out x _ (List.mem_of_getElem? HX.out) (by repeat (first | exact Ext.refl _ | assumption | refine Ext.alloc ?_ _ | refine Ext.drew ?_ | refine Ext.trans ?_ (by assumption)))).mono ?_
        rintro e w1 ⟨rfl, hw1⟩
        have e1 := hw1.keep (new1 wr _ _ _ _)
        go_wp2
      · exact ⟨⟨k + 1, by omega, by go_num, by rw [sumIf_at HX.out, hp]; simp, (by repeat (first | exact Ext.refl _ | assumption | refine Ext.alloc ?_ _ | refine Ext.drew ?_ | refine Ext.trans ?_ (by assumption)))⟩, by simp [intOf]; omega⟩
      · exact ⟨⟨k + 1, by omega, by go_num, by rw [sumIf_at HX.out, hp]; simp, (by repeat (first | exact Ext.refl _ | assumption | refine Ext.alloc ?_ _ | refine Ext.drew ?_ | refine Ext.trans ?_ (by assumption)))⟩, by simp [intOf]; omega⟩
    · go_wp2
      go_ret
      exact ⟨ret_int (by rw [List.take_of_length_le (by omega)]), hwr⟩

set_option maxRecDepth 100000 in
theorem bit_impl {s : Int} (h0 : 0 ≤ s) (h63 : s ≤ 63) {k : Nat} (h : k < 6) : (bits BinOp.and IntKind.i64 (s / 2 ^ k) 1 == 1) = bitAt s k := by
  refine sets (p := fun s => (bits BinOp.and IntKind.i64 (s / 2 ^ k) 1 == 1) = bitAt s k) (fun n hn => ?_) h0 h63
  have : k = 0 ∨ k = 1 ∨ k = 2 ∨ k = 3 ∨ k = 4 ∨ k = 5 := by omega
  rcases this with rfl | rfl | rfl | rfl | rfl | rfl <;> revert n <;> decide

set_option maxRecDepth 100000 in
set_option maxHeartbeats 1000000 in
theorem scoreOne (w : World) (s : Int) (h0 : 0 ≤ s) (h63 : s ≤ 63) (b off k : Nat) (hk : k < 6) (hc : w.cell? ⟨b, off, none⟩ = some (.int .i64 (k : Int))) :
    Calls Try.prog 168 #[.int .i64 s, .pointer (some ⟨b, off, none⟩)] w fun e w' => e = .returned (.bool (bitAt s k)) ∧ Ext w w' := by
  have hb := bit_impl h0 h63 hk
  go_enter Try.func168, Try.ntmps168
  go_wp2
  go_ret
  exact ⟨rfl, Ext.refl _⟩

def scoresTo (bs : List (Int × Int)) (k : Nat) : List Int := (List.range k).map (fun a => sumIf (fun s => bitAt s a) bs)
set_option maxRecDepth 100000 in
theorem scoresTo_succ (bs : List (Int × Int)) (k : Nat) : scoresTo bs (k + 1) = scoresTo bs k ++ [sumIf (fun s => bitAt s k) bs] := by simp [scoresTo, List.range_succ]
set_option maxRecDepth 100000 in
theorem scoresTo_len (bs : List (Int × Int)) (k : Nat) : (scoresTo bs k).length = k := by simp [scoresTo]
def scoresOf (sz : Int) (bs : List (Int × Int)) : List Int := if appOk sz bs then scoresTo bs sz.toNat else []

set_option maxRecDepth 100000 in
set_option maxHeartbeats 2000000 in
theorem scores_impl (w : World) (sz : Int) (a : Option Addr) (c : Nat) (bs : List (Int × Int)) (hR : RdP w a bs) :
    Calls Try.prog 50 #[.agg #[.int .i64 sz, .slice a bs.length c]] w fun e w' => ∃ v, e = .returned v ∧ OwnI w' w.heap.size v (scoresOf sz bs) ∧ Ext w w' := by
  have q0 := new0 w (.int .i64 sz) [.slice a bs.length c] 32
  have q1 := new1 w (.int .i64 sz) (.slice a bs.length c) [] 32
  cases h1 : appOk sz bs
  · go_enter Try.func50, Try.ntmps50
    go_wp2_with (go_at_call 46; refine (ok_impl _ _ _ _ _ (hR.ext (by repeat (first | exact Ext.refl _ | assumption | refine Ext.alloc ?_ _ | refine Ext.drew ?_ | refine Ext.trans ?_ (by assumption))))).mono ?_; rintro e w1 ⟨rfl, hw1⟩; have q0 := Ext.keep (w' := w1) (by repeat (first | exact Ext.refl _ | assumption | refine Ext.alloc ?_ _ | refine Ext.drew ?_ | refine Ext.trans ?_ (by assumption))) q0; have q1 := Ext.keep (w' := w1) (by repeat (first | exact Ext.refl _ | assumption | refine Ext.alloc ?_ _ | refine Ext.drew ?_ | refine Ext.trans ?_ (by assumption))) q1)
    go_ret
    exact ⟨_, rfl, by simp [scoresOf, h1]; exact OwnI.nil _ _, (by repeat (first | exact Ext.refl _ | assumption | refine Ext.alloc ?_ _ | refine Ext.drew ?_ | refine Ext.trans ?_ (by assumption)))⟩
  obtain ⟨n, rfl⟩ : ∃ n : Nat, sz = (n : Int) := ⟨sz.toNat, by have := ok_size h1; omega⟩
  obtain ⟨hlo, hhi⟩ := ok_size h1
  have hS := small_of h1
  go_enter Try.func50, Try.ntmps50
  go_wp2_with (go_at_call 46; refine (ok_impl _ _ _ _ _ (hR.ext (by repeat (first | exact Ext.refl _ | assumption | refine Ext.alloc ?_ _ | refine Ext.drew ?_ | refine Ext.trans ?_ (by assumption))))).mono ?_; rintro e w1 ⟨rfl, hw1⟩; have q0 := Ext.keep (w' := w1) (by repeat (first | exact Ext.refl _ | assumption | refine Ext.alloc ?_ _ | refine Ext.drew ?_ | refine Ext.trans ?_ (by assumption))) q0; have q1 := Ext.keep (w' := w1) (by repeat (first | exact Ext.refl _ | assumption | refine Ext.alloc ?_ _ | refine Ext.drew ?_ | refine Ext.trans ?_ (by assumption))) q1)
  have hw : Ext w w1 := (by repeat (first | exact Ext.refl _ | assumption | refine Ext.alloc ?_ _ | refine Ext.drew ?_ | refine Ext.trans ?_ (by assumption)))
  clear hw1
  go_loopw [3, 4, 10] (fun v _ i wr => ∃ k : Nat, k ≤ n ∧ i = .int .i64 k ∧ OwnI wr w1.heap.size v (scoresTo bs k) ∧ Ext w1 wr) (fun _ _ i _ => n - (intOf i).toNat)
  case atStart => exact ⟨0, Nat.zero_le _, rfl, OwnI.nil _ _, Ext.refl _⟩
  case round =>
    obtain ⟨k, hk, rfl, hown, hwr⟩ := hrel
    have q0 := hwr.keep q0
    have q1 := hwr.keep q1
    by_cases hlt : k < n
    · have HV := hide (fun (w' : World) (hw' : Ext (wr.alloc (.cells #[.int .i64 (k : Int)] 3)) w') =>
        voters_impl 168 #[] #[.pointer (some ⟨wr.heap.size, 0, none⟩)] (fun s => bitAt s k) w' n a c bs (hR.ext (by repeat (first | exact Ext.refl _ | assumption | refine Ext.alloc ?_ _ | refine Ext.drew ?_ | refine Ext.trans ?_ (by assumption)))) hS (fun _ _ => Try.call168 _ _)
          (fun x w2 hx hw2 => scoreOne w2 x.1 (hS.2 x hx).1 (hS.2 x hx).2.1 wr.heap.size 0 k (by omega) (hw2.keep (hw'.keep (new0 wr _ _ _)))))
      go_wp2_with fail
      refine (HV.out _ (Ext.refl _)).mono ?_
      rintro e w2 ⟨rfl, hw2⟩
      go_wp2_with (at_builtin; refine wpList_appI w1 _ rfl _ _ rfl _ (scoresTo bs k) _ rfl (hown.ext (by repeat (first | exact Ext.refl _ | assumption | refine Ext.alloc ?_ _ | refine Ext.drew ?_ | refine Ext.trans ?_ (by assumption)))) (by repeat (first | exact Ext.refl _ | assumption | refine Ext.alloc ?_ _ | refine Ext.drew ?_ | refine Ext.trans ?_ (by assumption))) rfl (by rw [scoresTo_len]; omega) ?_; intro v' w3 hown3 hw3)
      exact ⟨⟨k + 1, by omega, by go_num, by rw [scoresTo_succ]; exact hown3, hw3⟩, by simp [intOf]; omega⟩
    · obtain rfl : k = n := by omega
      go_wp2
      go_ret
      exact ⟨_, rfl, by simp [scoresOf, h1]; exact hown.base hw.size, hw.trans hwr⟩

/-- The table of scores while candidate k is counted over m ballots. -/
def tab (bs : List (Int × Int)) (k m : Nat) (j : Nat) : Value := .int .i64 (if j < k then sumIf (fun s => bitAt s j) bs else if j = k then sumIf (fun s => bitAt s j) (bs.take m) else 0)
set_option maxRecDepth 100000 in
theorem tab_zero (bs : List (Int × Int)) (j : Nat) : tab bs 0 0 j = .int .i64 0 := by
  unfold tab
  rw [if_neg (by omega)]
  split <;> simp [sumIf]
set_option maxRecDepth 100000 in
theorem tab_done (bs : List (Int × Int)) (k : Nat) (j : Nat) : tab bs k bs.length j = tab bs (k + 1) 0 j := by
  unfold tab
  by_cases h1 : j < k
  · rw [if_pos h1, if_pos (by omega)]
  · by_cases h2 : j = k
    · subst h2; rw [if_neg h1, if_pos rfl, if_pos (by omega), List.take_of_length_le (Nat.le_refl _)]
    · rw [if_neg h1, if_neg h2, if_neg (by omega)]
      split <;> simp [sumIf]
set_option maxRecDepth 100000 in
theorem tab_at (bs : List (Int × Int)) (k m : Nat) : tab bs k m k = .int .i64 (sumIf (fun s => bitAt s k) (bs.take m)) := by
  unfold tab
  rw [if_neg (by omega), if_pos rfl]
set_option maxRecDepth 100000 in
theorem tab_far (bs : List (Int × Int)) (k m m' : Nat) {j : Nat} (h : j ≠ k) : tab bs k m j = tab bs k m' j := by
  unfold tab
  rw [if_neg h, if_neg h]

end Go.Proofs.Ytacmabdeocmheaa
