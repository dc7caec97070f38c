/- slices.Repeat of one integer. -/
import Derived.Test.YtacmabdeocmheaaWr
import Derived.Laws.IdiomCopy
namespace Go.Proofs.Ytacmabdeocmheaa
open Go.RowKit

set_option maxRecDepth 100000 in
theorem BlkF.setCells {g n : Nat} : ∀ (cs : List Value) (w : World) (f : Nat → Value) (o : Nat), BlkF w g n f → o + cs.length ≤ n →
    BlkF (w.setCells g o cs) g n (fun x => if o ≤ x ∧ x < o + cs.length then cs.getD (x - o) undef else f x)
  | [], w, f, o, h, _ => by
    refine BlkF.congr (f := f) h (fun x _ => ?_)
    have h0 : ¬ (o ≤ x ∧ x < o + ([] : List Value).length) := by simp only [List.length_nil]; omega
    rw [if_neg h0]
  | c :: cs, w, f, o, h, ho => by
    simp only [List.length_cons] at ho
    have h1 := BlkF.setCells cs _ _ (o + 1) (h.set o (by omega) c) (by omega)
    refine BlkF.congr (w := w.setCells g o (c :: cs)) h1 (fun x hx => ?_)
    simp only [List.length_cons]
    by_cases e : x = o
    · subst e
      have e1 : ¬ (x + 1 ≤ x ∧ x < x + 1 + cs.length) := by omega
      have e2 : x ≤ x ∧ x < x + (cs.length + 1) := by omega
      rw [if_neg e1, if_pos rfl, if_pos e2, Nat.sub_self]
      rfl
    · by_cases e2 : o + 1 ≤ x ∧ x < o + 1 + cs.length
      · have e3 : o ≤ x ∧ x < o + (cs.length + 1) := by omega
        rw [if_pos e2, if_pos e3]
        obtain ⟨k, hk⟩ : ∃ k, x - o = k + 1 := ⟨x - o - 1, by omega⟩
        rw [hk, show x - (o + 1) = k by omega]
        simp
      · have e3 : ¬ (o ≤ x ∧ x < o + (cs.length + 1)) := by omega
        rw [if_neg e2, if_neg e3, if_neg e]
set_option maxRecDepth 100000 in
theorem Ext.setCells {W : World} {g : Nat} (hg : W.heap.size ≤ g) : ∀ (cs : List Value) (w : World) (o : Nat), Ext W w → Ext W (w.setCells g o cs)
  | [], _, _, h => h
  | c :: cs, _, o, h => Ext.setCells hg cs _ (o + 1) (h.setCell hg c)

set_option maxRecDepth 100000 in
theorem run_copyB (w : World) (ty : TypeId) (g n o dLen dCap : Nat) (f : Nat → Value) (hB : BlkF w g n f) (a : Addr) (sLen sCap : Nat) (v : Int) (m : Nat) (hm : m = Nat.min sLen dLen) (ho : o + m ≤ n)
    (hsrc : ∀ j, j < m → w.cell? (a.add j) = some (.int .i64 v)) :
    (Builtin.copy_ #[50, 50] ty #[.slice (some ⟨g, o, none⟩) dLen dCap, .slice (some a) sLen sCap]).run Try.prog w = .ok (goInt m) (w.setCells g o (List.replicate m (.int .i64 v))) := by
  obtain ⟨i0, hi, hz0, hz1, hz2⟩ := info_parts info_int
  have h := run_copy_cells (P := Try.prog) w 50 50 ty 3 g o dLen dCap a sLen sCap (List.replicate m (.int .i64 v)) Try.underlying50 (by rw [hi]; simp [hz1]) (by simp [hm])
    (fun j u hj => by
      rw [List.getElem?_replicate] at hj
      split at hj
      · injection hj with hj; rw [← hj]; exact hsrc j (by assumption)
      · cases hj)
    (fun j hj => by rw [List.length_replicate] at hj; rw [hB.cell _ (by omega)]; rfl)
    (fun j _ => hB.fr _)
    (fun u hu => by rw [List.eq_of_mem_replicate hu]; rfl)
  rw [List.length_replicate] at h
  exact h
set_option maxRecDepth 100000 in
theorem oper_copyB {o : Oper} {a : Act} {w : World} {K : World → Act → Prop} (d s : Operand)
    (ho : o.op = .call { callee := .builtin .copy, args := #[d, s], argTypes := #[50, 50] }) (g n off dLen dCap : Nat) (f : Nat → Value) (hB : BlkF w g n f) (ad : Addr) (sLen sCap : Nat) (v : Int) (m : Nat)
    (hd : a.eval d = .slice (some ⟨g, off, none⟩) dLen dCap) (hs : a.eval s = .slice (some ad) sLen sCap) (hm : m = Nat.min sLen dLen) (hoff : off + m ≤ n)
    (hsrc : ∀ j, j < m → w.cell? (ad.add j) = some (.int .i64 v))
    (h : K (w.setCells g off (List.replicate m (.int .i64 v))) (a.put o.dst (.int .i64 (m : Int)))) : o.wp Try.prog a w (fun a' w' => K w' a') NoExit := by
  have hrun := run_copyB w o.type g n off dLen dCap f hB ad sLen sCap v m hm hoff hsrc
  unfold Oper.wp
  simp [execOp, ho, resolve, invoke, builtin, hd, hs, hrun, Result.andThen]
  exact h

set_option maxRecDepth 100000 in
set_option maxHeartbeats 4000000 in
theorem mul_small (w : World) (n : Int) (h1 : 1 ≤ n) (h5 : n ≤ 5) :
    Calls Try.prog 257 #[.int .u64 1, .int .u64 n] w fun e w' => e = .returned (.tuple #[.int .u64 0, .int .u64 n]) ∧ Ext w w' := by
  have : n = 1 ∨ n = 2 ∨ n = 3 ∨ n = 4 ∨ n = 5 := by omega
  rcases this with rfl | rfl | rfl | rfl | rfl
  all_goals
    go_enter Try.func257, Try.ntmps257
    go_wp2
    refine bodyPost_ret (results_tmp2 Try.results257 _ _ _) rfl ⟨?_, Ext.refl _⟩
    kernel_rfl

set_option maxRecDepth 100000 in
set_option maxHeartbeats 4000000 in
theorem rep_impl (w : World) (b off c : Nat) (v : Int) (n : Nat) (h1 : 1 ≤ n) (h5 : n ≤ 5) (hc : w.cell? ⟨b, off, none⟩ = some (.int .i64 v)) :
    Calls Try.prog 202 #[.slice (some ⟨b, off, none⟩) 1 c, .int .i64 n] w fun e w' => ∃ g, e = .returned (.slice (some ⟨g, 0, none⟩) n n) ∧ w.heap.size ≤ g ∧ BlkF w' g n (fun _ => .int .i64 v) ∧ Ext w w' := by
  obtain ⟨i0, hi, hz0, hz1, hz2⟩ := info_parts info_int
  have hmk := fun W => run_make_rowN (P := Try.prog) 50 3 i0 _ Try.underlying50 hi hz0 .i64 .i64 n n (Nat.le_refl _) (by rw [hz2]; omega) (by omega) W
  rw [hz1, Nat.mul_one] at hmk
  go_enter Try.func202, Try.ntmps202
  go_wp2_with (go_at_call 257; refine (mul_small _ _ (by omega) (by omega)).mono ?_; rintro e w1 ⟨rfl, hw1⟩)
  have hB0 := BlkF.new w1 (madeCells #[.int .i64 0] n) 3
  rw [size_madeCells] at hB0
  have hE0 := Ext.new w1 (.cells (madeCells #[.int .i64 0] n) 3)
  rw [run_copyB _ _ w1.heap.size n 0 n n _ hB0 ⟨b, off, none⟩ 1 c v 1 (by show 1 = min 1 n; omega) (by omega) (fun j hj => by
    obtain rfl : j = 0 := by omega
    exact hE0.keep (hw1.keep (by simpa [Addr.add] using hc)))]
  have hB1 := BlkF.setCells (List.replicate 1 (.int .i64 v)) _ _ 0 hB0 (by simp; omega)
  have hE1 := Ext.setCells (Nat.le_refl w1.heap.size) (List.replicate 1 (.int .i64 v)) _ 0 hE0
  obtain ⟨W0, hW0⟩ : ∃ W0 : World, W0 = (w1.alloc (.cells (madeCells #[.int .i64 0] n) 3)).setCells w1.heap.size 0 (List.replicate 1 (.int .i64 v)) := ⟨_, rfl⟩
  rw [← hW0] at hB1 hE1 ⊢
  clear hW0 hB0 hE0 hmk
  have hw : Ext w w1 := hw1
  have hB2 := hB1.congr (f' := fun x => if x < 1 then .int .i64 v else .int .i64 0) (fun x hx => by
    by_cases e : x = 0
    · subst e; simp
    · have e1 : ¬ (0 ≤ x ∧ x < 0 + (List.replicate 1 (Value.int .i64 v)).length) := by simp; omega
      have e2 : ¬ x < 1 := by omega
      rw [if_neg e1, if_neg e2]
      exact made_int n x hx)
  clear hB1
  obtain ⟨wb, hwb⟩ : ∃ wb : World, wb = w1 := ⟨_, rfl⟩
  subst hwb
  go_wp2
  go_loopw [8] (fun i wr => ∃ k : Nat, 1 ≤ k ∧ k ≤ n ∧ i = .int .i64 k ∧ BlkF wr wb.heap.size n (fun x => if x < k then .int .i64 v else .int .i64 0) ∧ Ext wb wr) (fun i _ => n - (intOf i).toNat)
  case atStart => exact ⟨1, Nat.le_refl _, h1, rfl, hB2, hE1⟩
  case round =>
    clear hB2 hE1
    obtain ⟨k, hk1, hk, rfl, hB, hwr⟩ := hrel
    by_cases hlt : k < n
    · have hne : ¬ n = k := by omega
      obtain ⟨m, hm⟩ : ∃ m : Nat, m = min k (n - k) := ⟨_, rfl⟩
      have hm1 : 1 ≤ m := by omega
      have hm2 : k + m ≤ n := by omega
      have hm3 : m ≤ k := by omega
      have y1 : wrap64 ((k : Int) + (m : Int)) = ((k + m : Nat) : Int) := by rw [IntWalk.wrap64_in _ (by omega)]; omega
      have y2 : IntKind.i64.wrap ((k : Int) + (m : Int)) = ((k + m : Nat) : Int) := by rw [IntWalk.i64_left]; exact y1
      have HM := hide hm
      clear hm
      go_wp2
      refine wp_region_X (by kernel_rfl) (by kernel_rfl) ?_
      repeat' (refine wpX_stepQ (fun K hK => ?_)
               go_simp
               try (rw [if_neg (by intro h; simp [undef] at h)])
               try split
               all_goals
                 first
                 | (refine hK _ ?_
                    clear hK K)
                 | (apply Exists.intro
                    refine ⟨fun wq hwq => ?_, hK _ ?_⟩
                    · have hcq := hwq.cellS
                      go_simp
                      first
                      | exact ⟨Ext.refl _, rfl⟩
                    clear hK K))
      refine wpX_stepC rfl (by kernel_rfl) (fun K hK wa hwa => ?_)
      refine Eq.mpr (if_pos rfl) ?_
      have hBa := hB.ext hwa
      refine oper_copyB _ _ rfl wb.heap.size n k (n - k) (n - k) _ hBa ⟨wb.heap.size, 0, none⟩ k n v m rfl rfl HM.out hm2 (fun j hj => ?_) ?_
      · have e1 : Addr.add ⟨wb.heap.size, 0, none⟩ j = ⟨wb.heap.size, j, none⟩ := by unfold Addr.add; split <;> simp_all
        rw [e1, hBa.cell j (by omega), if_pos (by omega)]
      refine hK _ _ ?_
      clear hK K
      have hBc := BlkF.setCells (List.replicate m (.int .i64 v)) _ _ k hBa (by simp; omega)
      have hEc := Ext.setCells (Nat.le_refl wb.heap.size) (List.replicate m (.int .i64 v)) _ k (hwr.trans hwa)
      have hBd := hBc.congr (f' := fun x => if x < k + m then .int .i64 v else .int .i64 0) (fun x hx => by
        rw [List.length_replicate]
        by_cases e1 : k ≤ x ∧ x < k + m
        · rw [if_pos e1, if_pos (by omega), List.getD_eq_getElem?_getD, List.getElem?_replicate, if_pos (by omega)]; rfl
        · rw [if_neg e1]
          by_cases e2 : x < k
          · rw [if_pos e2, if_pos (by omega)]
          · rw [if_neg e2, if_neg (by omega)])
      clear hBc hBa
      generalize wa.setCells wb.heap.size k (List.replicate m (.int .i64 v)) = W1 at hBd hEc ⊢
      repeat' (refine wpX_stepQ (fun K hK => ?_)
               go_simp
               try (rw [if_neg (by intro h; simp [undef] at h)])
               try split
               all_goals
                 first
                 | (refine hK _ ?_
                    clear hK K)
                 | (apply Exists.intro
                    refine ⟨fun wq hwq => ?_, hK _ ?_⟩
                    · have hcq := hwq.cellS
                      go_simp
                      first
                      | exact ⟨Ext.refl _, rfl⟩
                    clear hK K))
      refine wpX_nil (fun wz hwz => ?_)
      go_wp2
      exact ⟨⟨k + m, by omega, by omega, rfl, hBd.ext hwz, hEc.trans hwz⟩, by simp [intOf]; omega⟩
    · have hkn : k = n := by omega
      go_wp2
      go_ret
      exact ⟨_, rfl, hw.size, hB.congr (fun x hx => by rw [if_pos (by omega)]), hw.trans hwr⟩

end Go.Proofs.Ytacmabdeocmheaa
