/- slices.Repeat of one integer. slices.Delete and slices.Clone of integers. Eliminations of the program: by a worth, any worth. -/
import Derived.Test.YthiojkpoeejkaaaCa4
import Derived.Laws.IdiomCopy
import Derived.Deep.RegionLaw
import Derived.Lib.SliceRun
import Derived.Test.YthiojkpoeejkaaaCa17
import Derived.Test.YthiojkpoeejkaaaCa15
namespace Go.Proofs.Ythiojkpoeejkaaa
open Go.RowKit

set_option maxRecDepth 100000 in
theorem BlkF.setCells {g n : Nat} : ∀ (cs : List Value) (w : World) (f : Nat → Value) (o : Nat), BlkF w g n f → o + cs.length ≤ n →
    BlkF (w.setCells g o cs) g n (fun x => if o ≤ x ∧ x < o + cs.length then cs.getD (x - o) undef else f x)
  | [], w, f, o, h, _ => by
    refine BlkF.congr (f := f) h (fun x _ => ?_)
    have h0 : ¬ (o ≤ x ∧ x < o + ([] : List Value).length) := by simp only [List.length_nil]; omega
    rw [if_neg h0]
  | c :: cs, w, f, o, h, ho => by
    simp only [List.length_cons] at ho
    have h1 := BlkF.setCells cs _ _ (o + 1) (h.set o (by omega) c) (by omega)
    refine BlkF.congr (w := w.setCells g o (c :: cs)) h1 (fun x hx => ?_)
    simp only [List.length_cons]
    by_cases e : x = o
    · subst e
      have e1 : ¬ (x + 1 ≤ x ∧ x < x + 1 + cs.length) := by omega
      have e2 : x ≤ x ∧ x < x + (cs.length + 1) := by omega
      rw [if_neg e1, if_pos rfl, if_pos e2, Nat.sub_self]
      rfl
    · by_cases e2 : o + 1 ≤ x ∧ x < o + 1 + cs.length
      · have e3 : o ≤ x ∧ x < o + (cs.length + 1) := by omega
        rw [if_pos e2, if_pos e3]
        obtain ⟨k, hk⟩ : ∃ k, x - o = k + 1 := ⟨x - o - 1, by omega⟩
        rw [hk, show x - (o + 1) = k by omega]
        simp
      · have e3 : ¬ (o ≤ x ∧ x < o + (cs.length + 1)) := by omega
        rw [if_neg e2, if_neg e3, if_neg e]
set_option maxRecDepth 100000 in
theorem Ext.setCells {W : World} {g : Nat} (hg : W.heap.size ≤ g) : ∀ (cs : List Value) (w : World) (o : Nat), Ext W w → Ext W (w.setCells g o cs)
  | [], _, _, h => h
  | c :: cs, _, o, h => Ext.setCells hg cs _ (o + 1) (h.setCell hg c)

set_option maxRecDepth 100000 in
theorem run_copyB (w : World) (ty : TypeId) (g n o dLen dCap : Nat) (f : Nat → Value) (hB : BlkF w g n f) (a : Addr) (sLen sCap : Nat) (v : Int) (m : Nat) (hm : m = Nat.min sLen dLen) (ho : o + m ≤ n)
    (hsrc : ∀ j, j < m → w.cell? (a.add j) = some (.int .i64 v)) :
    (Builtin.copy_ #[29, 29] ty #[.slice (some ⟨g, o, none⟩) dLen dCap, .slice (some a) sLen sCap]).run Try.prog w = .ok (goInt m) (w.setCells g o (List.replicate m (.int .i64 v))) := by
  obtain ⟨i0, hi, hz0, hz1, hz2⟩ := info_parts info_int
  have h := run_copy_cells (P := Try.prog) w 29 29 ty 3 g o dLen dCap a sLen sCap (List.replicate m (.int .i64 v)) Try.underlying29 (by rw [hi]; simp [hz1]) (by simp [hm])
    (fun j u hj => by
      rw [List.getElem?_replicate] at hj
      split at hj
      · injection hj with hj; rw [← hj]; exact hsrc j (by assumption)
      · cases hj)
    (fun j hj => by rw [List.length_replicate] at hj; rw [hB.cell _ (by omega)]; rfl)
    (fun j _ => hB.fr _)
    (fun u hu => by rw [List.eq_of_mem_replicate hu]; rfl)
  rw [List.length_replicate] at h
  exact h
set_option maxRecDepth 100000 in
theorem oper_copyB {o : Oper} {a : Act} {w : World} {K : World → Act → Prop} (d s : Operand)
    (ho : o.op = .call { callee := .builtin .copy, args := #[d, s], argTypes := #[29, 29] }) (g n off dLen dCap : Nat) (f : Nat → Value) (hB : BlkF w g n f) (ad : Addr) (sLen sCap : Nat) (v : Int) (m : Nat)
    (hd : a.eval d = .slice (some ⟨g, off, none⟩) dLen dCap) (hs : a.eval s = .slice (some ad) sLen sCap) (hm : m = Nat.min sLen dLen) (hoff : off + m ≤ n)
    (hsrc : ∀ j, j < m → w.cell? (ad.add j) = some (.int .i64 v))
    (h : K (w.setCells g off (List.replicate m (.int .i64 v))) (a.put o.dst (.int .i64 (m : Int)))) : o.wp Try.prog a w (fun a' w' => K w' a') NoExit := by
  have hrun := run_copyB w o.type g n off dLen dCap f hB ad sLen sCap v m hm hoff hsrc
  unfold Oper.wp
  simp [execOp, ho, resolve, invoke, builtin, hd, hs, hrun, Result.andThen]
  exact h

set_option maxRecDepth 100000 in
set_option maxHeartbeats 4000000 in
theorem mul_small (w : World) (n : Int) (h1 : 1 ≤ n) (h5 : n ≤ 5) :
    Calls Try.prog 197 #[.int .u64 1, .int .u64 n] w fun e w' => e = .returned (.tuple #[.int .u64 0, .int .u64 n]) ∧ Ext w w' := by
  have : n = 1 ∨ n = 2 ∨ n = 3 ∨ n = 4 ∨ n = 5 := by omega
  rcases this with rfl | rfl | rfl | rfl | rfl
  all_goals
    go_enter Try.func197, Try.ntmps197
    go_wp2
    refine bodyPost_ret (results_tmp2 Try.results197 _ _ _) rfl ⟨?_, Ext.refl _⟩
    kernel_rfl

set_option maxRecDepth 100000 in
set_option maxHeartbeats 4000000 in
theorem rep_impl (w : World) (b off c : Nat) (v : Int) (n : Nat) (h1 : 1 ≤ n) (h5 : n ≤ 5) (hc : w.cell? ⟨b, off, none⟩ = some (.int .i64 v)) :
    Calls Try.prog 147 #[.slice (some ⟨b, off, none⟩) 1 c, .int .i64 n] w fun e w' => ∃ g, e = .returned (.slice (some ⟨g, 0, none⟩) n n) ∧ w.heap.size ≤ g ∧ BlkF w' g n (fun _ => .int .i64 v) ∧ Ext w w' := by
  obtain ⟨i0, hi, hz0, hz1, hz2⟩ := info_parts info_int
  have hmk := fun W => run_make_rowN (P := Try.prog) 29 3 i0 _ Try.underlying29 hi hz0 .i64 .i64 n n (Nat.le_refl _) (by rw [hz2]; omega) (by omega) W
  rw [hz1, Nat.mul_one] at hmk
  go_enter Try.func147, Try.ntmps147
  go_wp2_with (go_at_call 197; refine (mul_small _ _ (by omega) (by omega)).mono ?_; rintro e w1 ⟨rfl, hw1⟩)
  have hB0 := BlkF.new w1 (madeCells #[.int .i64 0] n) 3
  rw [size_madeCells] at hB0
  have hE0 := Ext.new w1 (.cells (madeCells #[.int .i64 0] n) 3)
  rw [run_copyB _ _ w1.heap.size n 0 n n _ hB0 ⟨b, off, none⟩ 1 c v 1 (by show 1 = min 1 n; omega) (by omega) (fun j hj => by
    obtain rfl : j = 0 := by omega
    exact hE0.keep (hw1.keep (by simpa [Addr.add] using hc)))]
  have hB1 := BlkF.setCells (List.replicate 1 (.int .i64 v)) _ _ 0 hB0 (by simp; omega)
  have hE1 := Ext.setCells (Nat.le_refl w1.heap.size) (List.replicate 1 (.int .i64 v)) _ 0 hE0
  obtain ⟨W0, hW0⟩ : ∃ W0 : World, W0 = (w1.alloc (.cells (madeCells #[.int .i64 0] n) 3)).setCells w1.heap.size 0 (List.replicate 1 (.int .i64 v)) := ⟨_, rfl⟩
  rw [← hW0] at hB1 hE1 ⊢
  clear hW0 hB0 hE0 hmk
  have hw : Ext w w1 := hw1
  have hB2 := hB1.congr (f' := fun x => if x < 1 then .int .i64 v else .int .i64 0) (fun x hx => by
    by_cases e : x = 0
    · subst e; simp
    · have e1 : ¬ (0 ≤ x ∧ x < 0 + (List.replicate 1 (Value.int .i64 v)).length) := by simp; omega
      have e2 : ¬ x < 1 := by omega
      rw [if_neg e1, if_neg e2]
      exact made_int n x hx)
  clear hB1
  obtain ⟨wb, hwb⟩ : ∃ wb : World, wb = w1 := ⟨_, rfl⟩
  subst hwb
  go_wp2
  go_loopw [8] (fun i wr => ∃ k : Nat, 1 ≤ k ∧ k ≤ n ∧ i = .int .i64 k ∧ BlkF wr wb.heap.size n (fun x => if x < k then .int .i64 v else .int .i64 0) ∧ Ext wb wr) (fun i _ => n - (intOf i).toNat)
  case atStart => exact ⟨1, Nat.le_refl _, h1, rfl, hB2, hE1⟩
  case round =>
    clear hB2 hE1
    obtain ⟨k, hk1, hk, rfl, hB, hwr⟩ := hrel
    by_cases hlt : k < n
    · have hne : ¬ n = k := by omega
      obtain ⟨m, hm⟩ : ∃ m : Nat, m = min k (n - k) := ⟨_, rfl⟩
      have hm1 : 1 ≤ m := by omega
      have hm2 : k + m ≤ n := by omega
      have hm3 : m ≤ k := by omega
      have y1 : wrap64 ((k : Int) + (m : Int)) = ((k + m : Nat) : Int) := by rw [IntWalk.wrap64_in _ (by omega)]; omega
      have y2 : IntKind.i64.wrap ((k : Int) + (m : Int)) = ((k + m : Nat) : Int) := by rw [IntWalk.i64_left]; exact y1
      have HM := hide hm
      clear hm
      go_wp2
      refine wp_region_X (by kernel_rfl) (by kernel_rfl) ?_
      repeat' (refine wpX_stepQ (fun K hK => ?_)
               go_simp
               try (rw [if_neg (by intro h; simp [undef] at h)])
               try split
               all_goals
                 first
                 | (refine hK _ ?_
                    clear hK K)
                 | (apply Exists.intro
                    refine ⟨fun wq hwq => ?_, hK _ ?_⟩
                    · have hcq := hwq.cellS
                      go_simp
                      first
                      | exact ⟨Ext.refl _, rfl⟩
                    clear hK K))
      refine wpX_stepC rfl (by kernel_rfl) (fun K hK wa hwa => ?_)
      refine Eq.mpr (if_pos rfl) ?_
      have hBa := hB.ext hwa
      refine oper_copyB _ _ rfl wb.heap.size n k (n - k) (n - k) _ hBa ⟨wb.heap.size, 0, none⟩ k n v m rfl rfl HM.out hm2 (fun j hj => ?_) ?_
      · have e1 : Addr.add ⟨wb.heap.size, 0, none⟩ j = ⟨wb.heap.size, j, none⟩ := by unfold Addr.add; split <;> simp_all
        rw [e1, hBa.cell j (by omega), if_pos (by omega)]
      refine hK _ _ ?_
      clear hK K
      have hBc := BlkF.setCells (List.replicate m (.int .i64 v)) _ _ k hBa (by simp; omega)
      have hEc := Ext.setCells (Nat.le_refl wb.heap.size) (List.replicate m (.int .i64 v)) _ k (hwr.trans hwa)
      have hBd := hBc.congr (f' := fun x => if x < k + m then .int .i64 v else .int .i64 0) (fun x hx => by
        rw [List.length_replicate]
        by_cases e1 : k ≤ x ∧ x < k + m
        · rw [if_pos e1, if_pos (by omega), List.getD_eq_getElem?_getD, List.getElem?_replicate, if_pos (by omega)]; rfl
        · rw [if_neg e1]
          by_cases e2 : x < k
          · rw [if_pos e2, if_pos (by omega)]
          · rw [if_neg e2, if_neg (by omega)])
      clear hBc hBa
      generalize wa.setCells wb.heap.size k (List.replicate m (.int .i64 v)) = W1 at hBd hEc ⊢
      repeat' (refine wpX_stepQ (fun K hK => ?_)
               go_simp
               try (rw [if_neg (by intro h; simp [undef] at h)])
               try split
               all_goals
                 first
                 | (refine hK _ ?_
                    clear hK K)
                 | (apply Exists.intro
                    refine ⟨fun wq hwq => ?_, hK _ ?_⟩
                    · have hcq := hwq.cellS
                      go_simp
                      first
                      | exact ⟨Ext.refl _, rfl⟩
                    clear hK K))
      refine wpX_nil (fun wz hwz => ?_)
      go_wp2
      exact ⟨⟨k + m, by omega, by omega, rfl, hBd.ext hwz, hEc.trans hwz⟩, by simp [intOf]; omega⟩
    · have hkn : k = n := by omega
      go_wp2
      go_ret
      exact ⟨_, rfl, hw.size, hB.congr (fun x hx => by rw [if_pos (by omega)]), hw.trans hwr⟩

/-- The cells of a list of n from which those from i on and below j are taken out. -/
def delF (n : Nat) (f : Nat → Value) (i j t : Nat) : Value := if t < i then f t else if t + (j - i) < n then f (t + (j - i)) else .int .i64 0

set_option maxRecDepth 100000 in
set_option maxHeartbeats 4000000 in
theorem del_impl (w : World) (g n c i j : Nat) (f : Nat → Value) (hB : BlkF w g n f) (hij : i < j) (hj : j ≤ n) (hc : n ≤ c) (h1 : ∀ t, t < n → (f t).oneCell' = true) :
    Calls Try.prog 169 #[.slice (some ⟨g, 0, none⟩) n c, .int .i64 i, .int .i64 j] w fun e w' => e = .returned (.slice (some ⟨g, 0, none⟩) (n - (j - i)) c) ∧ BlkF w' g n (delF n f i j) ∧ Only g w w' := by
  obtain ⟨i0, hi, hz0, hz1, hz2⟩ := info_parts info_int
  obtain ⟨news, hnews⟩ : ∃ news : List Value, news = (List.range (n - j)).map (fun t => f (j + t)) := ⟨_, rfl⟩
  have hlen : news.length = n - j := by rw [hnews]; simp
  have hget : ∀ t, t < n - j → news[t]? = some (f (j + t)) := fun t ht => by rw [hnews]; simp [ht]
  have hBd : BlkF w.drew g n f := hB.ext ((Ext.refl w).drew)
  obtain ⟨A, hA, hsrc⟩ : ∃ A : Addr, (if c = j then some (⟨g, 0, none⟩ : Addr) else some ⟨g, j, none⟩) = some A ∧ Hid (∀ (t : Nat) u, news[t]? = some u → w.drew.cell? (A.add t) = some u) := by
    by_cases h : c = j
    · refine ⟨⟨g, 0, none⟩, by simp [h], fun t u hu => ?_⟩
      have := lt_of_at hu
      omega
    · refine ⟨⟨g, j, none⟩, by simp [h], fun t u hu => ?_⟩
      have ht := lt_of_at hu
      rw [hlen] at ht
      rw [hget t ht] at hu
      injection hu with hu
      rw [Addr.add_lit, ← hu]
      exact hBd.cell (j + t) (by omega)
  have s1 : Hid (news.length = (n - j) * 1) := by show _ = _; rw [Nat.mul_one]; exact hlen
  have s2 : Hid (∀ u ∈ news, u.oneCell' = true) := by
    intro u hu
    rw [hnews, List.mem_map] at hu
    obtain ⟨t, ht, rfl⟩ := hu
    have := List.mem_range.1 ht
    exact h1 _ (by omega)
  have s3 : Hid (∀ t, t < news.length → (w.drew.cell? ⟨g, 0 + i * 1 + t, none⟩).isSome = true ∧ w.drew.frozen? ⟨g, 0 + i * 1 + t, none⟩ = false) := by
    intro t ht
    rw [hlen] at ht
    rw [Nat.mul_one, Nat.zero_add]
    exact ⟨by rw [hBd.cell (i + t) (by omega)]; rfl, hBd.fr _⟩
  obtain ⟨W1, hW1⟩ : ∃ W1 : World, W1 = w.drew.setCells g (0 + i * 1) news := ⟨_, rfl⟩
  have hB1 : BlkF W1 g n (fun t => if i ≤ t ∧ t < i + (n - j) then f (j + (t - i)) else f t) := by
    have h := BlkF.setCells news w.drew f (0 + i * 1) hBd (by rw [hlen]; omega)
    rw [← hW1] at h
    refine h.congr (fun t ht => ?_)
    rw [hlen]
    by_cases e : i ≤ t ∧ t < i + (n - j)
    · have e' : 0 + i * 1 ≤ t ∧ t < 0 + i * 1 + (n - j) := by omega
      rw [if_pos e, if_pos e', List.getD_eq_getElem?_getD, hget _ (by omega)]
      simp
    · have e' : ¬ (0 + i * 1 ≤ t ∧ t < 0 + i * 1 + (n - j)) := by omega
      rw [if_neg e, if_neg e']
  have hO1 : Only g w W1 := by
    have key : ∀ (cs : List Value) (w0 : World) (o : Nat), Only g w w0 → Only g w (w0.setCells g o cs) := by
      intro cs
      induction cs with
      | nil => intro w0 o h; exact h
      | cons x cs ih => intro w0 o h; exact ih _ _ (h.setCell o x)
    rw [hW1]
    exact key _ _ _ (Only.of_ext ((Ext.refl w).drew))
  have hcl : ∀ ty, (Builtin.clear_ #[29] ty #[.slice (some ⟨g, i + (n - j), none⟩) (n - (i + (n - j))) (c - (i + (n - j)))]).run Try.prog W1 = .ok (.tuple #[]) (W1.setCells g (i + (n - j)) (List.replicate (n - (i + (n - j))) (.int .i64 0))) :=
    fun ty => Lib.run_clear_slice W1 _ _ ty _ Try.underlying29 (fun w => by kernel_rfl) rfl rfl g (i + (n - j)) _ _ (by omega) (fun t ht => by rw [hB1.cell _ (by omega)]; rfl) (fun t ht => hB1.fr _)
  have HB := hide hB1
  have HO := hide hO1
  have hW : Hid (W1 = w.drew.setCells g (0 + i * 1) news) := hW1
  have hic : i ≤ c := by omega
  have hjc : j ≤ c := by omega
  have hin : i ≤ n := by omega
  clear hW1 hB1 hO1 hBd hB hget hnews hlen h1
  go_enter Try.func169, Try.ntmps169
  go_wp2_with fail
  go_region_law (refine step_append_room rfl (.tmp 22) (.tmp 25) 29 rfl 3 i0 1 Try.underlying29 hi hz1 g 0 i c (by simp [Act.eval, Act.put]) A (n - j) (c - j) news (by simp [Act.eval, Act.put]) s1.out hsrc.out s2.out (by omega) s3.out ?_; rw [← hW.out])
  go_wp2
  go_ret
  have hfin := BlkF.setCells (List.replicate (n - (i + (n - j))) (.int .i64 0)) W1 _ (i + (n - j)) HB.out (by rw [List.length_replicate]; omega)
  have key : ∀ (cs : List Value) (w0 : World) (o : Nat), Only g w w0 → Only g w (w0.setCells g o cs) := by
    intro cs
    induction cs with
    | nil => intro w0 o h; exact h
    | cons x cs ih => intro w0 o h; exact ih _ _ (h.setCell o x)
  refine ⟨by rw [show n - (j - i) = i + (n - j) by omega]; rfl, hfin.congr (fun t ht => ?_), key _ _ _ HO.out⟩
  unfold delF
  rw [List.length_replicate]
  by_cases e1 : i + (n - j) ≤ t ∧ t < i + (n - j) + (n - (i + (n - j)))
  · rw [if_pos e1, List.getD_eq_getElem?_getD, List.getElem?_replicate, if_pos (by omega), if_neg (by omega), if_neg (by omega)]; rfl
  · rw [if_neg e1]
    by_cases e2 : t < i
    · rw [if_neg (by omega), if_pos e2]
    · rw [if_pos (by omega), if_neg e2, if_pos (by omega), show j + (t - i) = t + (j - i) by omega]

set_option maxRecDepth 100000 in
theorem BlkF.le {w : World} {g n m : Nat} {f : Nat → Value} (h : BlkF w g n f) (hm : m ≤ n) : BlkF w g m f := ⟨h.lt, h.fr, fun o ho => h.cell o (by omega)⟩
set_option maxRecDepth 100000 in
/-- One is taken out. -/
theorem del1 (w : World) (g n c i : Nat) (f : Nat → Value) (hB : BlkF w g n f) (hi : i < n) (hc : n ≤ c) (h1 : ∀ t, t < n → (f t).oneCell' = true) :
    Calls Try.prog 169 #[.slice (some ⟨g, 0, none⟩) n c, .int .i64 (i : Int), .int .i64 ((i : Int) + 1)] w fun e w' => e = .returned (.slice (some ⟨g, 0, none⟩) (n - 1) c) ∧ BlkF w' g (n - 1) (fun t => if t < i then f t else f (t + 1)) ∧ Only g w w' := by
  have h := del_impl w g n c i (i + 1) f hB (by omega) (by omega) hc h1
  have e : ((i + 1 : Nat) : Int) = (i : Int) + 1 := by omega
  rw [e] at h
  refine h.mono ?_
  rintro e w' ⟨rfl, hB', hO⟩
  refine ⟨by rw [show n - (i + 1 - i) = n - 1 by omega], (hB'.le (by omega)).congr (fun t ht => ?_), hO⟩
  unfold delF
  by_cases e2 : t < i
  · rw [if_pos e2, if_pos e2]
  · rw [if_neg e2, if_neg e2, if_pos (by omega), show t + (i + 1 - i) = t + 1 by omega]

def iotaL (n : Nat) : List Int := rowL n (fun j => (j : Int))
set_option maxRecDepth 100000 in
theorem iotaL_up (n : Nat) : iotaL n = upL n (fun _ => true) := by
  unfold iotaL rowL upL
  rw [List.filter_eq_self.2 (fun _ _ => rfl)]
set_option maxRecDepth 100000 in
set_option maxHeartbeats 1000000 in
theorem indices_impl (w : World) (n : Nat) (n2 : n ≤ 5) :
    Calls Try.prog 128 #[.int .i64 n] w fun e w' => e = .returned (.slice (some ⟨w.heap.size, 0, none⟩) n n) ∧ BlkF w' w.heap.size n (fun o => .int .i64 (o : Int)) ∧ Ext w w' := by
  obtain ⟨i0, hi, hz0, hz1, hz2⟩ := info_parts info_int
  have hmk := fun W => run_make_rowN (P := Try.prog) 29 3 i0 _ Try.underlying29 hi hz0 .i64 .i64 n n (Nat.le_refl _) (by rw [hz2]; omega) (by omega) W
  rw [hz1, Nat.mul_one] at hmk
  go_enter Try.func128, Try.ntmps128
  go_wp2_with fail
  clear hmk
  have hB := BlkF.new w (madeCells #[.int .i64 0] n) 3
  rw [size_madeCells] at hB
  have hE := Ext.new w (.cells (madeCells #[.int .i64 0] n) 3)
  have hB := hB.congr (f' := fun o => .int .i64 (if o < 0 then (o : Int) else 0)) (fun o ho => by rw [if_neg (by omega)]; exact made_int n o ho)
  generalize w.alloc (.cells (madeCells #[.int .i64 0] n) 3) = W1 at hB hE ⊢
  go_loopw [4, 9] (fun _ i wr => ∃ j : Nat, j ≤ n ∧ i = .int .i64 j ∧ BlkF wr w.heap.size n (fun o => .int .i64 (if o < j then (o : Int) else 0)) ∧ Ext w wr) (fun _ i _ => n - (intOf i).toNat)
  case atStart => exact ⟨0, Nat.zero_le _, rfl, hB, hE⟩
  case round =>
    clear hB hE
    obtain ⟨i, hi, rfl, hB, hwr⟩ := hrel
    by_cases hlt : i < n
    · have d0 := hB.cell i hlt
      rw [if_neg (by omega)] at d0
      have z0 := hB.fr i
      have HB := hide hB
      clear hB
      go_wp2
      refine ⟨⟨i + 1, by omega, by go_num, (HB.out.set i hlt _).congr (fun o ho => ?_), Ext.setCell hwr (Nat.le_refl _) _⟩, by simp [intOf]; omega⟩
      by_cases e : o = i
      · subst e; rw [if_pos rfl, if_pos (by omega)]
      · rw [if_neg e]
        by_cases e2 : o < i
        · rw [if_pos e2, if_pos (by omega)]
        · rw [if_neg e2, if_neg (by omega)]
    · have hin : i = n := by omega
      go_wp2
      go_ret
      exact ⟨rfl, hB.congr (fun o ho => by rw [if_pos (by omega)]), hwr⟩

set_option maxRecDepth 100000 in
/-- v reads as the list, in a block that may be written. -/
theorem BlkF.rdL {w : World} {g n : Nat} {f : Nat → Value} {xs : List Int} (h : BlkF w g n f) (hn : xs.length ≤ n) (hf : ∀ (j : Nat) (x : Int), xs[j]? = some x → f j = .int .i64 x) : RdI w (some ⟨g, 0, none⟩) xs := fun _ => ⟨g, 0, rfl, fun j x hx => by rw [Nat.zero_add, h.cell j (by have := lt_of_at hx; omega), hf j x hx]⟩

set_option maxRecDepth 100000 in
theorem BlkF.grown {w w' : World} {g n : Nat} {f : Nat → Value} {row : Option Nat} (h : BlkF w g n f) (hg : w.grownBy w' row) (hr : ∀ k, row = some k → k ≠ g) : BlkF w' g n f := by
  have hgr : w'.heap[g]? = w.heap[g]? := hg.block g h.lt (fun e => hr g e.symm rfl)
  exact ⟨Nat.lt_of_lt_of_le h.lt hg.size, fun o => (World.frozen?_of_block (w := w) hgr).trans (h.fr o), fun o ho => (World.cell?_of_block (w := w) hgr).trans (h.cell o ho)⟩

def elimO (sz : Int) (vs : List Vt) (W : List Int → Int → Int) : List Int := if profOk sz vs then elimL sz.toNat W sz.toNat else []
set_option maxRecDepth 100000 in
theorem elimO_len (sz : Int) (vs : List Vt) (W : List Int → Int → Int) : (elimO sz vs W).length ≤ 5 := by
  unfold elimO
  cases h0 : profOk sz vs
  · simp
  · obtain ⟨n, rfl, n1, n2⟩ := prof_nat h0
    simp [elimL_len]; omega
set_option maxRecDepth 100000 in
theorem pickV_take {f : Int → Int} {xs : List Int} {k : Nat} {x : Int} (h : xs[k]? = some x) : pickV f (xs.take (k + 1)) = if pickV f (xs.take k) < 0 ∨ f x ≤ f (pickV f (xs.take k)) then x else pickV f (xs.take k) := by
  rw [take_at h, pickV_snoc]

set_option maxRecDepth 100000 in
set_option maxHeartbeats 8000000 in
theorem elim_impl (K : Nat) (cap : Array Value) (W : List Int → Int → Int) (w : World) (sz : Int) (a : Option Addr) (c : Nat) (vs : List Vt) (hR : RdV w a vs) (hK : Enters Try.prog K)
    (hf : ∀ (n : Nat) (left : List Int) (x : Int) (al : Option Addr) (cl : Nat) (w' : World), sz = n → n ≤ 5 → SmallV n vs → (∀ y ∈ left, 0 ≤ y ∧ y < n) → left.length ≤ n → x ∈ left → Ext w w' → RdI w' al left →
      Calls Try.prog K (#[.slice al left.length cl, .int .i64 x] ++ cap) w' fun e w'' => e = .returned (.int .i64 (W left x)) ∧ Ext w' w'') :
    Calls Try.prog 158 #[.agg #[.int .i64 sz, .slice a vs.length c], .func (.func K) #[] cap] w fun e w' => ∃ v, e = .returned v ∧ OwnI w' w.heap.size v (elimO sz vs W) ∧ Ext w w' := by
  unfold Enters at hK
  have q0 := new0 w (.int .i64 sz) [.slice a vs.length c] 47
  have q1 := new1 w (.int .i64 sz) (.slice a vs.length c) [] 47
  have HF := hide hf
  clear hf
  cases h0 : profOk sz vs
  · go_enter Try.func158, Try.ntmps158
    go_wp2_with (go_at_call 35; refine (prof_impl _ _ _ _ _ (hR.ext (by repeat (first | exact Ext.refl _ | assumption | refine Ext.alloc ?_ _ | refine Ext.drew ?_ | refine Ext.trans ?_ (by assumption))))).mono ?_; rintro e w1 ⟨rfl, hw1⟩; have q0 := Ext.keep (w' := w1) (by repeat (first | exact Ext.refl _ | assumption | refine Ext.alloc ?_ _ | refine Ext.drew ?_ | refine Ext.trans ?_ (by assumption))) q0; have q1 := Ext.keep (w' := w1) (by repeat (first | exact Ext.refl _ | assumption | refine Ext.alloc ?_ _ | refine Ext.drew ?_ | refine Ext.trans ?_ (by assumption))) q1)
    go_ret
    exact ⟨_, rfl, by simp [elimO, h0]; exact OwnI.nil _ _, (by repeat (first | exact Ext.refl _ | assumption | refine Ext.alloc ?_ _ | refine Ext.drew ?_ | refine Ext.trans ?_ (by assumption)))⟩
  obtain ⟨n, rfl, n1, n2⟩ := prof_nat h0
  have HS := hide (prof_small h0)
  go_enter Try.func158, Try.ntmps158
  go_wp2_with (go_at_call 35; refine (prof_impl _ _ _ _ _ (hR.ext (by repeat (first | exact Ext.refl _ | assumption | refine Ext.alloc ?_ _ | refine Ext.drew ?_ | refine Ext.trans ?_ (by assumption))))).mono ?_; rintro e w1 ⟨rfl, hw1⟩; have q0 := Ext.keep (w' := w1) (by repeat (first | exact Ext.refl _ | assumption | refine Ext.alloc ?_ _ | refine Ext.drew ?_ | refine Ext.trans ?_ (by assumption))) q0; have q1 := Ext.keep (w' := w1) (by repeat (first | exact Ext.refl _ | assumption | refine Ext.alloc ?_ _ | refine Ext.drew ?_ | refine Ext.trans ?_ (by assumption))) q1)
  refine (indices_impl _ n n2).mono ?_
  rintro e w2 ⟨rfl, hB, hw2⟩
  have hw : Ext w w2 := (by repeat (first | exact Ext.refl _ | assumption | refine Ext.alloc ?_ _ | refine Ext.drew ?_ | refine Ext.trans ?_ (by assumption)))
  obtain ⟨g, hg⟩ : ∃ g : Nat, g = w1.heap.size := ⟨_, rfl⟩
  have hgw : w.heap.size ≤ g := by rw [hg]; exact Ext.size (by repeat (first | exact Ext.refl _ | assumption | refine Ext.alloc ?_ _ | refine Ext.drew ?_ | refine Ext.trans ?_ (by assumption)))
  rw [← hg] at hB ⊢
  clear hg
  have hgl := hB.lt
  obtain ⟨wb, hwb⟩ : ∃ wb : World, wb = w2 := ⟨_, rfl⟩
  subst hwb
  go_wp2_with fail
  go_loopw [5, 6, 7, 8, 9, 19, 20, 21] (fun v l _ _ _ _ _ _ wr => ∃ (k : Nat) (f : Nat → Value), k ≤ n ∧ l = .slice (some ⟨g, 0, none⟩) (n - k) n ∧ OwnI wr wb.heap.size v (elimL n W k) ∧ BlkF wr g (n - k) f ∧ Hid (∀ (j : Nat) (x : Int), (leftL n (elimL n W k))[j]? = some x → f j = .int .i64 x) ∧ Ext w wr ∧ wb.heap.size ≤ wr.heap.size) (fun _ l _ _ _ _ _ _ _ => match l with | .slice _ m _ => m | _ => 0)
  case atStart =>
    refine ⟨0, _, Nat.zero_le _, rfl, OwnI.nil _ _, hB, fun j x hx => ?_, hw, Nat.le_refl _⟩
    rw [elimL, leftL_nil, ← iotaL_up] at hx
    obtain ⟨_, rfl⟩ := rowL_val hx
    rfl
  case round =>
    clear hB
    obtain ⟨k, f, hk, rfl, hown, hB, hfl, hwr, hsz⟩ := hrel
    have hll := leftL_elim (n := n) W k hk
    have hel := elimL_len n W k
    by_cases hlt : k < n
    · obtain ⟨left, hleft⟩ : ∃ left, left = leftL n (elimL n W k) := ⟨_, rfl⟩
      rw [← hleft] at hll hfl
      have hbds : ∀ y ∈ left, 0 ≤ y ∧ y < (n : Int) := fun y hy => by
        rw [hleft] at hy
        obtain ⟨i, hi, _, rfl⟩ := leftL_mem.1 hy
        omega
      have HLT := hide hleft
      obtain ⟨m, hm⟩ : ∃ m : Nat, m = n - k := ⟨_, rfl⟩
      rw [← hm] at hll hB ⊢
      have hm1 : 1 ≤ m := by omega
      have hm0 : decide (0 < m) = true := by simp; omega
      have hmn : m ≤ n := by omega
      have hmk : m + k ≤ n := by omega
      have hmk2 : n ≤ m + k := by omega
      have HLL := hide hll
      have HBD := hide hbds
      have hRl := hB.rdL (xs := left) (by omega) hfl.out
      have HC : Hid (∀ (x : Int) (w' : World), x ∈ left → Ext wr w' → Calls Try.prog K (#[.slice (some ⟨g, 0, none⟩) m n, .int .i64 x] ++ cap) w' fun e w'' => e = .returned (.int .i64 (W left x)) ∧ Ext w' w'') := fun x w' hx hw' => by
        have h := HF.out n left x (some ⟨g, 0, none⟩) n w' rfl n2 HS.out hbds (by omega) hx (hwr.trans hw') (hRl.ext hw')
        rw [hll] at h
        exact h
      clear hleft hm hll hbds
      go_wp2_with fail
      obtain ⟨wo, hwo⟩ : ∃ wo : World, wo = wr := ⟨_, rfl⟩
      subst hwo
      go_loopw [7, 8, 9, 21] (fun at_ _ _ i wr => ∃ (j p : Nat), j ≤ m ∧ p < m ∧ i = .int .i64 j ∧ at_ = .int .i64 p ∧ Hid ((j = 0 → p = 0) ∧ (1 ≤ j → left[p]? = some (pickV (W left) (left.take j)))) ∧ Ext wo wr) (fun _ _ _ i _ => m - (intOf i).toNat)
      case atStart => exact ⟨0, 0, Nat.zero_le _, hm1, rfl, rfl, ⟨fun _ => rfl, fun h => absurd h (by omega)⟩, Ext.refl _⟩
      case round =>
        obtain ⟨j, p, hj, hp, rfl, rfl, hjp, hwr'⟩ := hrel
        by_cases hjt : j < m
        · obtain ⟨x, hx⟩ := at_of_lt (xs := left) (k := j) (by rw [HLL.out]; exact hjt)
          obtain ⟨y, hy⟩ := at_of_lt (xs := left) (k := p) (by rw [HLL.out]; exact hp)
          have hxm := List.mem_of_getElem? hx
          have hym := List.mem_of_getElem? hy
          obtain ⟨b1, o1, hb1, d0⟩ := (hRl.ext hwr').at_ hx
          obtain ⟨b2, o2, hb2, d1⟩ := (hRl.ext hwr').at_ hy
          injection hb1 with hb1
          injection hb1 with hb1 hb1'
          subst hb1
          subst hb1'
          injection hb2 with hb2
          injection hb2 with hb2 hb2'
          subst hb2
          subst hb2'
          rw [Nat.zero_add] at d0 d1
          have hnext : ∀ t : Bool, (t = true ↔ W left x ≤ W left y) → left[if t = true then j else p]? = some (pickV (W left) (left.take (j + 1))) := fun t ht => by
            rw [pickV_take hx]
            by_cases h0 : j = 0
            · have hp0 := hjp.out.1 h0
              subst h0
              subst hp0
              rw [hx] at hy
              injection hy with hy
              subst hy
              rw [ht.2 (by omega), if_pos rfl, if_pos (.inl (by show pickV _ [] < 0; rw [pickV_nil]; decide))]
              exact hx
            · have hp1 := hjp.out.2 (by omega)
              rw [hy] at hp1
              injection hp1 with hp1
              have hy0 := (HBD.out y hym).1
              rw [← hp1]
              cases t
              · rw [if_neg (by decide), if_neg (fun h => by
                  rcases h with h | h
                  · omega
                  · have := ht.2 h; cases this)]
                exact hy
              · rw [if_pos rfl, if_pos (.inr (ht.1 rfl))]
                exact hx
          have HN := hide hnext
          clear hnext hx hy
          by_cases ht : W left x ≤ W left y
          · have hN := hide (show left[j]? = some (pickV (W left) (left.take (j + 1))) by have h := HN.out true (by simp [ht]); rwa [if_pos rfl] at h)
            clear HN
            go_wp2
            refine wp_region_X (by kernel_rfl) (by kernel_rfl) ?_
            repeat' (refine wpX_stepQ (fun K hK => ?_)
                     go_simp
                     try (rw [if_neg (by intro h; simp [undef] at h)])
                     try split
                     all_goals
                       first
                       | (refine hK _ ?_
                          clear hK K)
                       | (apply Exists.intro
                          refine ⟨fun wq hwq => ?_, hK _ ?_⟩
                          · have hcq := hwq.cellS
                            go_simp
                            first
                            | exact ⟨Ext.refl _, rfl⟩
                            | exact ⟨Ext.refl _, HC.out x _ hxm (by repeat (first | exact Ext.refl _ | assumption | refine Ext.alloc ?_ _ | refine Ext.drew ?_ | refine Ext.trans ?_ (by assumption)))⟩
                            | exact ⟨Ext.refl _, HC.out y _ hym (by repeat (first | exact Ext.refl _ | assumption | refine Ext.alloc ?_ _ | refine Ext.drew ?_ | refine Ext.trans ?_ (by assumption)))⟩
                          clear hK K))
            refine wpX_nil (fun wz hwz => ?_)
            go_wp2
            exact ⟨⟨j + 1, j, by omega, hjt, by go_num, rfl, ⟨fun h => absurd h (by omega), fun _ => hN.out⟩, (by repeat (first | exact Ext.refl _ | assumption | refine Ext.alloc ?_ _ | refine Ext.drew ?_ | refine Ext.trans ?_ (by assumption)))⟩, by simp [intOf]; omega⟩
          · have hN := hide (show left[p]? = some (pickV (W left) (left.take (j + 1))) by have h := HN.out false (by simp; omega); rwa [if_neg (by decide)] at h)
            clear HN
            go_wp2
            refine wp_region_X (by kernel_rfl) (by kernel_rfl) ?_
            repeat' (refine wpX_stepQ (fun K hK => ?_)
                     go_simp
                     try (rw [if_neg (by intro h; simp [undef] at h)])
                     try split
                     all_goals
                       first
                       | (refine hK _ ?_
                          clear hK K)
                       | (apply Exists.intro
                          refine ⟨fun wq hwq => ?_, hK _ ?_⟩
                          · have hcq := hwq.cellS
                            go_simp
                            first
                            | exact ⟨Ext.refl _, rfl⟩
                            | exact ⟨Ext.refl _, HC.out x _ hxm (by repeat (first | exact Ext.refl _ | assumption | refine Ext.alloc ?_ _ | refine Ext.drew ?_ | refine Ext.trans ?_ (by assumption)))⟩
                            | exact ⟨Ext.refl _, HC.out y _ hym (by repeat (first | exact Ext.refl _ | assumption | refine Ext.alloc ?_ _ | refine Ext.drew ?_ | refine Ext.trans ?_ (by assumption)))⟩
                          clear hK K))
            refine wpX_nil (fun wz hwz => ?_)
            go_wp2
            exact ⟨⟨j + 1, p, by omega, hp, by go_num, rfl, ⟨fun h => absurd h (by omega), fun _ => hN.out⟩, (by repeat (first | exact Ext.refl _ | assumption | refine Ext.alloc ?_ _ | refine Ext.drew ?_ | refine Ext.trans ?_ (by assumption)))⟩, by simp [intOf]; omega⟩
        · have hjm : j = m := by omega
          have hpick := hjp.out.2 (by omega)
          rw [hjm, List.take_of_length_le (by rw [HLL.out]; omega)] at hpick
          have hpf := hfl.out p _ hpick
          have d0 := (hB.ext hwr').cell p hp
          rw [hpf] at d0
          have HPK := hide hpick
          have hlow := hw.size
          have hwz := hwr'.size
          have hone : ∀ t, t < m → (f t).oneCell' = true := fun t ht => by
            obtain ⟨x, hx⟩ := at_of_lt (xs := left) (k := t) (by rw [HLL.out]; exact ht)
            rw [hfl.out t x hx]; rfl
          have HONE := hide hone
          have hBw := hB.ext hwr'
          clear hpf hpick hone hB
          go_wp2_with (at_builtin; refine wpList_appF wb.heap.size _ rfl _ _ rfl _ (elimL n W k) _ rfl (hown.ext (by repeat (first | exact Ext.refl _ | assumption | refine Ext.alloc ?_ _ | refine Ext.drew ?_ | refine Ext.trans ?_ (by assumption)))) (by omega) rfl (by omega) ?_; intro v' w3 hown3 hg3 hf3)
          have hrow : ∀ b, u5.ownBlock = some b → wb.heap.size ≤ b := fun b hb => ownsRow_block hown b hb
          have hB3 := hBw.grown hg3 (fun b hb => by have := hrow b hb; omega)
          have hE3 : Ext w w3 := Ext.grown (hwr.trans hwr') hg3 (fun b hb => by have := hrow b hb; omega)
          have hz3 := hg3.size
          clear hBw hrow hg3 hf3 d0
          have HC2 := hide (del1 w3 g m n p f hB3 hp hmn HONE.out)
          clear hB3 HONE
          go_wp2_with fail
          refine HC2.out.mono ?_
          rintro e w4 ⟨rfl, hB4, hO4⟩
          have hz4 := hO4.size
          go_wp2
          refine ⟨⟨k + 1, fun t => if t < p then f t else f (t + 1), by omega, ?_, ?_, ?_, fun j x hx => ?_, Only.ext hE3 hO4 hgw, by omega⟩, (show m - 1 < m by omega)⟩
          · rw [show n - (k + 1) = m - 1 by omega]
          · have h := hown3.only hgl hO4
            show OwnI _ _ _ (elimL n W k ++ [pickV (W (leftL n (elimL n W k))) (leftL n (elimL n W k))])
            rw [← HLT.out]
            exact h
          · rw [show n - (k + 1) = m - 1 by omega]
            exact hB4
          · have hpk := HPK.out
            rw [HLT.out] at hpk
            have he : leftL n (elimL n W (k + 1)) = left.eraseIdx p := by
              show leftL n (elimL n W k ++ [pickV (W (leftL n (elimL n W k))) (leftL n (elimL n W k))]) = _
              rw [HLT.out]
              exact (leftL_erase hpk).symm
            rw [he, List.getElem?_eraseIdx] at hx
            show (if j < p then f j else f (j + 1)) = _
            by_cases e : j < p
            · rw [if_pos e] at hx ⊢
              exact hfl.out j x hx
            · rw [if_neg e] at hx ⊢
              exact hfl.out (j + 1) x hx
    · have hkn : k = n := by omega
      go_wp2
      go_ret
      refine ⟨_, rfl, ?_, hwr⟩
      have he : elimO n vs W = elimL n W k := by simp [elimO, h0, hkn]
      rw [he]
      exact hown.base hw.size

end Go.Proofs.Ythiojkpoeejkaaa
