/- slices.Repeat of one integer. -/
import Derived.Test.YtagepfgncbgncaaWr
import Derived.Laws.IdiomCopy
namespace Go.Proofs.Ytagepfgncbgncaa
open Go.RowKit

set_option maxRecDepth 100000 in
theorem BlkF.setCells {g n : Nat} : ∀ (cs : List Value) (w : World) (f : Nat → Value) (o : Nat), BlkF w g n f → o + cs.length ≤ n →
    BlkF (w.setCells g o cs) g n (fun x => if o ≤ x ∧ x < o + cs.length then cs.getD (x - o) undef else f x)
  | [], w, f, o, h, _ => by
    refine BlkF.congr (f := f) h (fun x _ => ?_)
    have h0 : ¬ (o ≤ x ∧ x < o + ([] : List Value).length) := by simp only [List.length_nil]; omega
    rw [if_neg h0]
  | c :: cs, w, f, o, h, ho => by
    simp only [List.length_cons] at ho
    have h1 := BlkF.setCells cs _ _ (o + 1) (h.set o (by omega) c) (by omega)
    refine BlkF.congr (w := w.setCells g o (c :: cs)) h1 (fun x hx => ?_)
    simp only [List.length_cons]
    by_cases e : x = o
    · subst e
      have e1 : ¬ (x + 1 ≤ x ∧ x < x + 1 + cs.length) := by omega
      have e2 : x ≤ x ∧ x < x + (cs.length + 1) := by omega
      rw [if_neg e1, if_pos rfl, if_pos e2, Nat.sub_self]
      rfl
    · by_cases e2 : o + 1 ≤ x ∧ x < o + 1 + cs.length
      · have e3 : o ≤ x ∧ x < o + (cs.length + 1) := by omega
        rw [if_pos e2, if_pos e3]
        obtain ⟨k, hk⟩ : ∃ k, x - o = k + 1 := ⟨x - o - 1, by omega⟩
        rw [hk, show x - (o + 1) = k by omega]
        simp
      · have e3 : ¬ (o ≤ x ∧ x < o + (cs.length + 1)) := by omega
        rw [if_neg e2, if_neg e3, if_neg e]
set_option maxRecDepth 100000 in
theorem Ext.setCells {W : World} {g : Nat} (hg : W.heap.size ≤ g) : ∀ (cs : List Value) (w : World) (o : Nat), Ext W w → Ext W (w.setCells g o cs)
  | [], _, _, h => h
  | c :: cs, _, o, h => Ext.setCells hg cs _ (o + 1) (h.setCell hg c)

set_option maxRecDepth 100000 in
theorem run_copyB (w : World) (ty : TypeId) (g n o dLen dCap : Nat) (f : Nat → Value) (hB : BlkF w g n f) (a : Addr) (sLen sCap : Nat) (v : Int) (m : Nat) (hm : m = Nat.min sLen dLen) (ho : o + m ≤ n)
    (hsrc : ∀ j, j < m → w.cell? (a.add j) = some (.int .i64 v)) :
    (Builtin.copy_ #[50, 50] ty #[.slice (some ⟨g, o, none⟩) dLen dCap, .slice (some a) sLen sCap]).run Try.prog w = .ok (goInt m) (w.setCells g o (List.replicate m (.int .i64 v))) := by
  obtain ⟨i0, hi, hz0, hz1, hz2⟩ := info_parts info_int
  have h := run_copy_cells (P := Try.prog) w 50 50 ty 3 g o dLen dCap a sLen sCap (List.replicate m (.int .i64 v)) Try.underlying50 (by rw [hi]; simp [hz1]) (by simp [hm])
    (fun j u hj => by
      rw [List.getElem?_replicate] at hj
      split at hj
      · injection hj with hj; rw [← hj]; exact hsrc j (by assumption)
      · cases hj)
    (fun j hj => by rw [List.length_replicate] at hj; rw [hB.cell _ (by omega)]; rfl)
    (fun j _ => hB.fr _)
    (fun u hu => by rw [List.eq_of_mem_replicate hu]; rfl)
  rw [List.length_replicate] at h
  exact h
set_option maxRecDepth 100000 in
theorem oper_copyB {o : Oper} {a : Act} {w : World} {K : World → Act → Prop} (d s : Operand)
    (ho : o.op = .call { callee := .builtin .copy, args := #[d, s], argTypes := #[50, 50] }) (g n off dLen dCap : Nat) (f : Nat → Value) (hB : BlkF w g n f) (ad : Addr) (sLen sCap : Nat) (v : Int) (m : Nat)
    (hd : a.eval d = .slice (some ⟨g, off, none⟩) dLen dCap) (hs : a.eval s = .slice (some ad) sLen sCap) (hm : m = Nat.min sLen dLen) (hoff : off + m ≤ n)
    (hsrc : ∀ j, j < m → w.cell? (ad.add j) = some (.int .i64 v))
    (h : K (w.setCells g off (List.replicate m (.int .i64 v))) (a.put o.dst (.int .i64 (m : Int)))) : o.wp Try.prog a w (fun a' w' => K w' a') NoExit := by
  have hrun := run_copyB w o.type g n off dLen dCap f hB ad sLen sCap v m hm hoff hsrc
  unfold Oper.wp
  simp [execOp, ho, resolve, invoke, builtin, hd, hs, hrun, Result.andThen]
  exact h

end Go.Proofs.Ytagepfgncbgncaa
