/- Condorcet winner and loser, the unbeaten: both sides. Drawn regions in an order of one's own, with a writing operation in the middle. -/
import Derived.Test.YthiojkpoeejkaaaCa17
import Derived.Test.YthiojkpoeejkaaaCa0
namespace Go.Proofs.Ythiojkpoeejkaaa
open Go.RowKit

def loserO (sz : Int) (vs : List Vt) : Int := onlyL (thoseO sz vs (fun i j => bt vs j i))
def winnerO (sz : Int) (vs : List Vt) : Int := onlyL (thoseO sz vs (bt vs))
set_option maxRecDepth 100000 in
theorem smallL (n : Nat) (vs : List Vt) : (upsL n vs).length = n ∧ (dnsL n vs).length = n := ⟨rowL_len _ _, rowL_len _ _⟩

set_option maxRecDepth 100000 in
theorem small_up {n : Nat} (h : n ≤ 5) (vs : List Vt) : (upsL n vs).length ≤ 2000000 := by have := smallL n vs; omega
set_option maxRecDepth 100000 in
theorem small_dn {n : Nat} (h : n ≤ 5) (vs : List Vt) : (dnsL n vs).length ≤ 2000000 := by have := smallL n vs; omega

set_option maxRecDepth 100000 in
set_option maxHeartbeats 1000000 in
theorem winF (w : World) (n : Nat) (g : Nat) (a : Option Addr) (c : Nat) (vs : List Vt) (i j : Nat) (h0 : w.cell? ⟨g, 0, none⟩ = some (.int .i64 n)) (h1 : w.cell? ⟨g, 1, none⟩ = some (.slice a vs.length c)) (hR : RdV w a vs) (hS : SmallV n vs) :
    Calls Try.prog 141 #[.int .i64 i, .int .i64 j, .pointer (some ⟨g, 0, none⟩)] w fun e w' => e = .returned (.bool (bt vs i j)) ∧ Ext w w' := by
  have HS := hide hS
  clear hS
  go_enter Try.func141, Try.ntmps141
  go_wp2_with (go_at_call 138; refine (beats_impl _ _ _ _ _ _ _ hR HS.out).mono ?_; rintro e w1 ⟨rfl, hw1⟩)
  go_ret
  exact ⟨rfl, hw1⟩

set_option maxRecDepth 100000 in
set_option maxHeartbeats 1000000 in
theorem loseF (w : World) (n : Nat) (g : Nat) (a : Option Addr) (c : Nat) (vs : List Vt) (i j : Nat) (h0 : w.cell? ⟨g, 0, none⟩ = some (.int .i64 n)) (h1 : w.cell? ⟨g, 1, none⟩ = some (.slice a vs.length c)) (hR : RdV w a vs) (hS : SmallV n vs) :
    Calls Try.prog 137 #[.int .i64 i, .int .i64 j, .pointer (some ⟨g, 0, none⟩)] w fun e w' => e = .returned (.bool (bt vs j i)) ∧ Ext w w' := by
  have HS := hide hS
  clear hS
  go_enter Try.func137, Try.ntmps137
  go_wp2_with (go_at_call 138; refine (beats_impl _ _ _ _ _ _ _ hR HS.out).mono ?_; rintro e w1 ⟨rfl, hw1⟩)
  go_ret
  exact ⟨rfl, hw1⟩

set_option maxRecDepth 100000 in
set_option maxHeartbeats 1000000 in
theorem unbF (w : World) (n : Nat) (g : Nat) (a : Option Addr) (c : Nat) (vs : List Vt) (i j : Nat) (h0 : w.cell? ⟨g, 0, none⟩ = some (.int .i64 n)) (h1 : w.cell? ⟨g, 1, none⟩ = some (.slice a vs.length c)) (hR : RdV w a vs) (hS : SmallV n vs) :
    Calls Try.prog 148 #[.int .i64 i, .int .i64 j, .pointer (some ⟨g, 0, none⟩)] w fun e w' => e = .returned (.bool (!bt vs j i)) ∧ Ext w w' := by
  have HS := hide hS
  clear hS
  go_enter Try.func148, Try.ntmps148
  go_wp2_with (go_at_call 138; refine (beats_impl _ _ _ _ _ _ _ hR HS.out).mono ?_; rintro e w1 ⟨rfl, hw1⟩)
  go_ret
  exact ⟨rfl, hw1⟩

set_option maxRecDepth 100000 in
set_option maxHeartbeats 1000000 in
theorem uncF (w : World) (n : Nat) (g : Nat) (a : Option Addr) (c : Nat) (vs : List Vt) (i j : Nat) (hn : n ≤ 5) (h0 : w.cell? ⟨g, 0, none⟩ = some (.int .i64 n)) (h1 : w.cell? ⟨g, 1, none⟩ = some (.slice a vs.length c)) (hR : RdV w a vs) (hS : SmallV n vs) :
    Calls Try.prog 145 #[.int .i64 i, .int .i64 j, .pointer (some ⟨g, 0, none⟩)] w fun e w' => e = .returned (.bool (!coversV n vs j i)) ∧ Ext w w' := by
  have HS := hide hS
  clear hS
  go_enter Try.func145, Try.ntmps145
  go_wp2_with (go_at_call 146; refine (covers_impl _ _ _ _ _ _ _ hR HS.out hn).mono ?_; rintro e w1 ⟨rfl, hw1⟩)
  go_ret
  exact ⟨rfl, hw1⟩

set_option maxRecDepth 100000 in
set_option maxHeartbeats 1000000 in
theorem winner_impl (w : World) (sz : Int) (a : Option Addr) (c : Nat) (vs : List Vt) (hR : RdV w a vs) :
    Calls Try.prog 49 #[.agg #[.int .i64 sz, .slice a vs.length c]] w fun e w' => e = .returned (.int .i64 (winnerO sz vs)) ∧ Ext w w' := by
  go_enter Try.func49, Try.ntmps49
  go_wp2_with fail
  refine (only_impl 141 _ (bt vs) _ sz a c vs (hR.ext (by repeat (first | exact Ext.refl _ | assumption | refine Ext.alloc ?_ _ | refine Ext.drew ?_ | refine Ext.trans ?_ (by assumption)))) Try.call141 ?_).mono ?_
  · rintro n i j w' rfl hn hS hi hj hw'
    exact winF w' n _ a c vs i j (hw'.keep (new0 w _ _ _)) (hw'.keep (new1 w _ _ _ _)) (hR.ext (Ext.trans (by repeat (first | exact Ext.refl _ | assumption | refine Ext.alloc ?_ _ | refine Ext.drew ?_ | refine Ext.trans ?_ (by assumption))) hw')) hS
  rintro e w1 ⟨rfl, hw1⟩
  go_wp2
  go_ret
  exact ⟨rfl, (by repeat (first | exact Ext.refl _ | assumption | refine Ext.alloc ?_ _ | refine Ext.drew ?_ | refine Ext.trans ?_ (by assumption)))⟩

set_option maxRecDepth 100000 in
set_option maxHeartbeats 1000000 in
theorem loser_impl (w : World) (sz : Int) (a : Option Addr) (c : Nat) (vs : List Vt) (hR : RdV w a vs) :
    Calls Try.prog 44 #[.agg #[.int .i64 sz, .slice a vs.length c]] w fun e w' => e = .returned (.int .i64 (loserO sz vs)) ∧ Ext w w' := by
  go_enter Try.func44, Try.ntmps44
  go_wp2_with fail
  refine (only_impl 137 _ (fun i j => bt vs j i) _ sz a c vs (hR.ext (by repeat (first | exact Ext.refl _ | assumption | refine Ext.alloc ?_ _ | refine Ext.drew ?_ | refine Ext.trans ?_ (by assumption)))) Try.call137 ?_).mono ?_
  · rintro n i j w' rfl hn hS hi hj hw'
    exact loseF w' n _ a c vs i j (hw'.keep (new0 w _ _ _)) (hw'.keep (new1 w _ _ _ _)) (hR.ext (Ext.trans (by repeat (first | exact Ext.refl _ | assumption | refine Ext.alloc ?_ _ | refine Ext.drew ?_ | refine Ext.trans ?_ (by assumption))) hw')) hS
  rintro e w1 ⟨rfl, hw1⟩
  go_wp2
  go_ret
  exact ⟨rfl, (by repeat (first | exact Ext.refl _ | assumption | refine Ext.alloc ?_ _ | refine Ext.drew ?_ | refine Ext.trans ?_ (by assumption)))⟩

def unbO (sz : Int) (vs : List Vt) : List Int := thoseO sz vs (fun i j => !bt vs j i)
def uncO (sz : Int) (vs : List Vt) : List Int := thoseO sz vs (fun i j => !coversV sz.toNat vs j i)
set_option maxRecDepth 100000 in
theorem thoseO_len (sz : Int) (vs : List Vt) (p : Nat → Nat → Bool) : (thoseO sz vs p).length ≤ 5 := by
  unfold thoseO
  cases h0 : profOk sz vs
  · simp
  · obtain ⟨n, rfl, n1, n2⟩ := prof_nat h0
    have := upL_len n (thoseP n p)
    simp; omega
set_option maxRecDepth 100000 in
theorem unbO_len (sz : Int) (vs : List Vt) : (unbO sz vs).length ≤ 5 := thoseO_len _ _ _
set_option maxRecDepth 100000 in
theorem uncO_len (sz : Int) (vs : List Vt) : (uncO sz vs).length ≤ 5 := thoseO_len _ _ _
set_option maxRecDepth 100000 in
set_option maxHeartbeats 1000000 in
theorem unb_impl (w : World) (sz : Int) (a : Option Addr) (c : Nat) (vs : List Vt) (hR : RdV w a vs) :
    Calls Try.prog 55 #[.agg #[.int .i64 sz, .slice a vs.length c]] w fun e w' => ∃ v, e = .returned v ∧ OwnI w' w.heap.size v (unbO sz vs) ∧ Ext w w' := by
  go_enter Try.func55, Try.ntmps55
  go_wp2_with fail
  refine (those_impl 148 _ (fun i j => !bt vs j i) _ sz a c vs (hR.ext (by repeat (first | exact Ext.refl _ | assumption | refine Ext.alloc ?_ _ | refine Ext.drew ?_ | refine Ext.trans ?_ (by assumption)))) Try.call148 ?_).mono ?_
  · rintro n i j w' rfl hn hS hi hj hw'
    exact unbF w' n _ a c vs i j (hw'.keep (new0 w _ _ _)) (hw'.keep (new1 w _ _ _ _)) (hR.ext (Ext.trans (by repeat (first | exact Ext.refl _ | assumption | refine Ext.alloc ?_ _ | refine Ext.drew ?_ | refine Ext.trans ?_ (by assumption))) hw')) hS
  rintro e w1 ⟨v, rfl, hv, hw1⟩
  go_wp2
  go_ret
  exact ⟨_, rfl, hv.base (by simp), (by repeat (first | exact Ext.refl _ | assumption | refine Ext.alloc ?_ _ | refine Ext.drew ?_ | refine Ext.trans ?_ (by assumption)))⟩
set_option maxRecDepth 100000 in
set_option maxHeartbeats 1000000 in
theorem unc_impl (w : World) (sz : Int) (a : Option Addr) (c : Nat) (vs : List Vt) (hR : RdV w a vs) :
    Calls Try.prog 51 #[.agg #[.int .i64 sz, .slice a vs.length c]] w fun e w' => ∃ v, e = .returned v ∧ OwnI w' w.heap.size v (uncO sz vs) ∧ Ext w w' := by
  go_enter Try.func51, Try.ntmps51
  go_wp2_with fail
  refine (those_impl 145 _ (fun i j => !coversV sz.toNat vs j i) _ sz a c vs (hR.ext (by repeat (first | exact Ext.refl _ | assumption | refine Ext.alloc ?_ _ | refine Ext.drew ?_ | refine Ext.trans ?_ (by assumption)))) Try.call145 ?_).mono ?_
  · rintro n i j w' rfl hn hS hi hj hw'
    exact uncF w' n _ a c vs i j hn (hw'.keep (new0 w _ _ _)) (hw'.keep (new1 w _ _ _ _)) (hR.ext (Ext.trans (by repeat (first | exact Ext.refl _ | assumption | refine Ext.alloc ?_ _ | refine Ext.drew ?_ | refine Ext.trans ?_ (by assumption))) hw')) hS
  rintro e w1 ⟨v, rfl, hv, hw1⟩
  go_wp2
  go_ret
  exact ⟨_, rfl, hv.base (by simp), (by repeat (first | exact Ext.refl _ | assumption | refine Ext.alloc ?_ _ | refine Ext.drew ?_ | refine Ext.trans ?_ (by assumption)))⟩

section
variable {P : Program} {ops : Array Oper}
/-- As wpO, and a step that writes, before or behind all others. -/
def wpP (P : Program) (ops : Array Oper) (Q : Act → World → Prop) : List Nat → Array Bool → World → Act → Prop
  | [], _, W, a => ∀ w, Ext W w → Q a w
  | i :: rest, listed, W, a => ∃ o, ops[i]? = some o ∧
    ((∃ v, YX P ops W o v a ∧ wpP P ops Q rest (listed.setIfInBounds i true) W (a.put o.dst v)) ∨
    (Region.ready .any ops listed = [i] ∧ ∀ w, Ext W w → wpOp P ops NoExit i (fun a' w' => Ext w w' ∧ wpP P ops Q rest (listed.setIfInBounds i true) w' a') a w) ∨
    (Region.ready .any ops listed = [i] ∧ lastB .any ops i = true ∧ Region.ready .any ops (listed.setIfInBounds i true) = [] ∧ ∀ w, Ext W w → wpOp P ops NoExit i (fun a' w' => Q a' w') a w) ∨
    (Region.ready .any ops listed = [i] ∧ cutB .any ops i = true ∧ ∀ w, Ext W w → wpOp P ops NoExit i (fun a' w' => wpP P ops Q rest (listed.setIfInBounds i true) w' a') a w))

set_option maxRecDepth 100000 in
theorem wpP_any {Q : Act → World → Prop} (hs : Region.noSelect ops = true) : ∀ (l : List Nat) (listed : Array Bool) (W : World) (a : Act),
    Closed .any ops listed → ordB ops l listed = true → wpP P ops Q l listed W a → wpAnyX P .any ops Q l.length listed W a
  | [], _, _, _, _, hB, h => ⟨by simpa [ordB] using hB, h⟩
  | i :: l, listed, W, a, hcl, hB, h => by
    simp only [ordB, Bool.and_eq_true] at hB
    obtain ⟨⟨hr, hf⟩, hB'⟩ := hB
    have hcl' := hcl.set (j := i) (by simpa using hr)
    obtain ⟨o, h0, h⟩ := h
    rcases h with ⟨v, hy, hK⟩ | ⟨hsole', hK⟩ | ⟨hsole', hlast, hend, hK⟩ | ⟨hsole', hcut, hK⟩
    · exact wpAnyX_first h0 (Region.noSelect_spec hs) l.length _ W a (Region.free_spec h0 hf) hcl (by simpa using hr) hy (wpP_any hs l _ W _ hcl' hB' hK)
    · refine ⟨fun h => (by rw [h] at hsole'; cases hsole'), fun j hj w hw => ?_⟩
      have hik : j = i := by rw [hsole'] at hj; simpa using hj
      subst hik
      exact wpOp_mono (fun a' w' h3 => .inl ⟨h3.1, wpP_any hs l _ w' a' hcl' hB' h3.2⟩) (hK w hw)
    · refine ⟨fun h => (by rw [h] at hsole'; cases hsole'), fun j hj w hw => ?_⟩
      have hik : j = i := by rw [hsole'] at hj; simpa using hj
      subst hik
      exact wpOp_mono (fun a' w' h3 => .inr (.inl ⟨hlast, hend, h3⟩)) (hK w hw)
    · refine ⟨fun h => (by rw [h] at hsole'; cases hsole'), fun j hj w hw => ?_⟩
      have hik : j = i := by rw [hsole'] at hj; simpa using hj
      subst hik
      exact wpOp_mono (fun a' w' h3 => .inr (.inr ⟨hcut, wpP_any hs l _ w' a' hcl' hB' h3⟩)) (hK w hw)

set_option maxRecDepth 100000 in
theorem wp_region_P {id : Nat} {Q : Exit → Act → World → Prop} {a : Act} {w : World} {l : List Oper} (is : List Nat) (hm : P.follows .mixedOrders = true) (hlen : is.length = l.length)
    (hB : (Region.noSelect l.toArray && ordB l.toArray is (Array.replicate l.length false)) = true)
    (h : wpP P l.toArray (fun a' w' => Q .normal a' w') is (Array.replicate l.length false) w a) : (Code.region id l.toArray true).wp P Q a w := by
  simp only [Bool.and_eq_true] at hB
  have key : ∀ (l' : List Nat) (listed : Array Bool) (a : Act), wpP P l.toArray (fun a' w' => Q .normal a' w') l' listed w a → wpP P l.toArray (fun a' w' => Q .normal a' w') l' listed w.drew a := by
    intro l'
    induction l' with
    | nil => intro listed a h w' hw'; exact h w' (((Ext.refl w).drew).trans hw')
    | cons i l' ih =>
      intro listed a h
      obtain ⟨o, h0, h⟩ := h
      refine ⟨o, h0, ?_⟩
      rcases h with ⟨v, hy, hK⟩ | ⟨hs, hK⟩ | ⟨hs, h1, h2, hK⟩ | ⟨hs, h1, hK⟩
      · exact .inl ⟨v, hy.mono ((Ext.refl w).drew), ih _ _ hK⟩
      · exact .inr (.inl ⟨hs, fun w' hw' => hK w' (((Ext.refl w).drew).trans hw')⟩)
      · exact .inr (.inr (.inl ⟨hs, h1, h2, fun w' hw' => hK w' (((Ext.refl w).drew).trans hw')⟩))
      · exact .inr (.inr (.inr ⟨hs, h1, fun w' hw' => hK w' (((Ext.refl w).drew).trans hw')⟩))
  have h1 := wpP_any (P := P) (Q := fun a' w' => Q .normal a' w') hB.1 is _ w.drew a (Closed.start _ _ _) hB.2 (key is _ a h)
  rw [hlen] at h1
  exact wp_region_any hm (wpAny_of_X (fun _ _ h => h) _ _ _ _ (by simpa using h1))

set_option maxRecDepth 100000 in
theorem wpP_stepQ {Q : Act → World → Prop} {o : Oper} {i : Nat} {rest : List Nat} {listed : Array Bool} {W : World} {a : Act} (h0 : ops[i]? = some o)
    (h : ∀ K : Act → Prop, (∀ a, wpP P ops Q rest (listed.setIfInBounds i true) W a → K a) → if Region.wanted o (yielded ops a.tmps) then ∃ v, QX P W o a v ∧ K (a.put o.dst v) else K (a.put o.dst undef)) : wpP P ops Q (i :: rest) listed W a := by
  have h1 := h _ (fun _ h => h)
  refine ⟨o, h0, .inl ?_⟩
  by_cases hw : Region.wanted o (yielded ops a.tmps) = true
  · simp only [hw, if_true] at h1
    obtain ⟨v, hq, hK⟩ := h1
    exact ⟨v, .inl ⟨hw, hq⟩, hK⟩
  · simp only [hw] at h1
    exact ⟨undef, .inr ⟨by simpa using hw, rfl⟩, h1⟩

set_option maxRecDepth 100000 in
theorem wpP_stepS {Q : Act → World → Prop} {o : Oper} {i : Nat} {rest : List Nat} {listed : Array Bool} {W : World} {a : Act} (h0 : ops[i]? = some o) (hs : (Region.ready .any ops listed == [i]) = true)
    (h : ∀ K : World → Act → Prop, (∀ W a, wpP P ops Q rest (listed.setIfInBounds i true) W a → K W a) → ∀ w, Ext W w →
      if Region.wanted o (yielded ops a.tmps) then o.wp P a w (fun a' w' => Ext w w' ∧ K w' a') NoExit else K w (a.put o.dst undef)) : wpP P ops Q (i :: rest) listed W a := by
  refine ⟨o, h0, .inr (.inl ⟨by simpa using hs, fun w hw' => ?_⟩)⟩
  have h1 := h _ (fun _ _ h => h) w hw'
  unfold wpOp
  simp only [h0]
  by_cases hw : Region.wanted o (yielded ops a.tmps) = true
  · simp only [hw, if_true] at h1 ⊢
    exact .inl h1
  · simp only [hw] at h1 ⊢
    exact ⟨Ext.refl _, h1⟩

set_option maxRecDepth 100000 in
theorem wpP_stepC {Q : Act → World → Prop} {o : Oper} {i : Nat} {rest : List Nat} {listed : Array Bool} {W : World} {a : Act} (h0 : ops[i]? = some o) (hs : (Region.ready .any ops listed == [i] && cutB .any ops i) = true)
    (h : ∀ K : World → Act → Prop, (∀ W a, wpP P ops Q rest (listed.setIfInBounds i true) W a → K W a) → ∀ w, Ext W w →
      if Region.wanted o (yielded ops a.tmps) then o.wp P a w (fun a' w' => K w' a') NoExit else K w (a.put o.dst undef)) : wpP P ops Q (i :: rest) listed W a := by
  rw [Bool.and_eq_true] at hs
  refine ⟨o, h0, .inr (.inr (.inr ⟨by simpa using hs.1, hs.2, fun w hw' => ?_⟩))⟩
  have h1 := h _ (fun _ _ h => h) w hw'
  unfold wpOp
  simp only [h0]
  by_cases hw : Region.wanted o (yielded ops a.tmps) = true
  · simp only [hw, if_true] at h1 ⊢
    exact .inl h1
  · simp only [hw] at h1 ⊢
    exact h1

set_option maxRecDepth 100000 in
theorem wpP_stepL {Q : Act → World → Prop} {o : Oper} {i : Nat} {rest : List Nat} {listed : Array Bool} {W : World} {a : Act} (h0 : ops[i]? = some o) (hs : (Region.ready .any ops listed == [i]) = true) (hl : lastB .any ops i = true)
    (he : (Region.ready .any ops (listed.setIfInBounds i true)).isEmpty = true)
    (h : ∀ K : Act → World → Prop, (∀ a w, Q a w → K a w) → ∀ w, Ext W w → if Region.wanted o (yielded ops a.tmps) then o.wp P a w K NoExit else K (a.put o.dst undef) w) : wpP P ops Q (i :: rest) listed W a := by
  refine ⟨o, h0, .inr (.inr (.inl ⟨by simpa using hs, hl, List.isEmpty_iff.1 he, fun w hw' => ?_⟩))⟩
  have h1 := h _ (fun _ _ h => h) w hw'
  unfold wpOp
  simp only [h0]
  by_cases hw : Region.wanted o (yielded ops a.tmps) = true
  · simp only [hw, if_true] at h1 ⊢
    exact .inl h1
  · simp only [hw] at h1 ⊢
    exact h1

set_option maxRecDepth 100000 in
theorem wpP_nil {Q : Act → World → Prop} {listed : Array Bool} {W : World} {a : Act} (h : ∀ w, Ext W w → Q a w) : wpP P ops Q [] listed W a := h
end

end Go.Proofs.Ythiojkpoeejkaaa
