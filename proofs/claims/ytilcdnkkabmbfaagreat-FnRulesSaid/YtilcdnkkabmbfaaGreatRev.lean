/- Rankings that are turned round or left by a candidate, and copies made by append. -/
import Derived.Test.YtilcdnkkabmbfaaGreatRai
namespace Go.Proofs.YtilcdnkkabmbfaaGreat
open Go.RowKit

set_option maxRecDepth 100000 in
/-- A list that is read appended to an empty one of the call's own: what was there stays. -/
theorem run_cpy (ws : World) (B g : Nat) (ty : TypeId) (hO : OwnI ws B (.slice (some ⟨g, 0, none⟩) 0 0) []) (hB : B ≤ ws.heap.size) (ax : Option Addr) (ys : List Int) (c : Nat) (hR : RdI ws ax ys) (hl : ys.length ≤ 100000) :
    ∃ v' w', (Builtin.append_ #[36, 36] ty #[.slice (some ⟨g, 0, none⟩) 0 0, .slice ax ys.length c]).run Tryz.prog ws = .ok v' w' ∧ OwnI w' B v' ys ∧ Ext ws w' := by
  obtain ⟨i0, hi, hz0, hz1, hz2⟩ := info_parts info_int
  by_cases hne : ys = []
  · subst hne
    exact ⟨_, ws, run_append_none ws B 36 ty 3 i0 1 Tryz.underlying36 hi _ 0 [] hO ax c, hO, Ext.refl _⟩
  · obtain ⟨b, off, rfl, hc⟩ := hR hne
    have hp : 0 < ys.length := List.length_pos_iff.2 hne
    have hcell : ∀ (j : Nat) u, (ys.map (Value.int .i64))[j]? = some u → ws.cell? ((⟨b, off, none⟩ : Addr).add j) = some u := fun j u hj => by
      rw [List.getElem?_map, Option.map_eq_some_iff] at hj
      obtain ⟨y, hy, rfl⟩ := hj
      have := hc j y hy
      by_cases hj0 : j = 0
      · subst hj0
        simpa [Addr.add] using this
      · simpa [Addr.add, hj0] using this
    obtain ⟨v', w', hr, h1, h2, h3⟩ := run_append_any (P := Tryz.prog) ws B 36 ty 3 i0 (.int .i64 0) 1 8 Tryz.underlying36 hi hz0 hz1 hz2 rfl (by decide) _ _ _ hO (some ⟨b, off, none⟩) ys.length c (ys.map (Value.int .i64)) (by simp)
      (fun _ => ⟨_, rfl, hcell⟩) (fun u hu => by
        obtain ⟨y, _, rfl⟩ := List.mem_map.1 hu
        rfl) (by unfold maxLen; simp; omega) (by simp; omega) hB
    have hr2 := run_append_grow (P := Tryz.prog) ws 36 ty 3 i0 (.int .i64 0) Tryz.underlying36 hi hz0 ⟨g, 0, none⟩ 0 0 [] (by simp) (fun j v h => by simp at h) ⟨b, off, none⟩ ys.length c (ys.map (Value.int .i64)) (by rw [hz1]; simp) hcell (by omega) (by simp; omega)
      (growslice_fits (by omega) (by rw [hz2]; omega))
    have hr' := hr
    rw [hr] at hr2
    injection hr2 with e1 e2
    refine ⟨v', w', hr', ?_, ?_⟩
    · have h1' : w'.ownsRow B 3 1 v' (0 + ys.length) ([] ++ ys.map (Value.int .i64)) := h1
      rw [Nat.zero_add, List.nil_append] at h1'
      exact h1'
    · rw [e2]
      exact ((Ext.refl ws).drew).alloc _
set_option maxRecDepth 100000 in
theorem oper_cpyI {o : Oper} {a : Act} {K : World → Act → Prop} (wq ws : World) (hws : Ext (wq.alloc (.cells #[] 3)) ws) (s x : Operand)
    (ho : o.op = .call { callee := .builtin .append, args := #[s, x], argTypes := #[36, 36] }) (ys : List Int) (ax : Option Addr) (n c : Nat) (hn : n = ys.length)
    (hs : a.eval s = .slice (some ⟨wq.heap.size, 0, none⟩) 0 0) (hx : a.eval x = .slice ax n c) (hR : RdI ws ax ys) (hl : ys.length ≤ 100000)
    (h : ∀ v' w', OwnI w' wq.heap.size v' ys → Ext ws w' → Ext ws w' ∧ K w' (a.put o.dst v')) : o.wp Tryz.prog a ws (fun a' w' => Ext ws w' ∧ K w' a') NoExit := by
  subst hn
  have hsz := hws.size
  have hs2 : (wq.alloc (.cells #[] 3)).heap.size = wq.heap.size + 1 := by simp
  obtain ⟨v', w', hr, h1, h2⟩ := run_cpy ws wq.heap.size wq.heap.size o.type ((OwnI.made0 wq).ext hws) (by omega) ax ys c hR hl
  unfold Oper.wp execOp
  simp only [ho, resolve, invoke, builtin, Sem.run_bind, Sem.run_pure, Result.andThen_ok, List.map_toArray, List.map_cons, List.map_nil, hs, hx, hr]
  exact h v' w' h1 h2

set_option maxRecDepth 100000 in
set_option maxHeartbeats 4000000 in
theorem rvs_impl (w : World) (g n c : Nat) (h : Nat → Int) (n1 : 1 ≤ n) (n5 : n ≤ 1000) (hB : BlkF w g n (fun t => .int .i64 (h t))) (hnc : n ≤ c) :
    Calls Tryz.prog 158 #[.slice (some ⟨g, 0, none⟩) n c] w fun e w' => e = .returned (.tuple #[]) ∧ BlkF w' g n (fun t => .int .i64 (h (n - 1 - t))) ∧ Only g w w' ∧ ∀ s, Shp g 3 s w → Shp g 3 s w' := by
  obtain ⟨m, rfl⟩ : ∃ m, n = m + 1 := ⟨n - 1, by omega⟩
  have y0 : wrap64 (((m + 1 : Nat) : Int) - 1) = (m : Int) := by rw [IntWalk.wrap64_in _ (by omega)]; omega
  go_enter Tryz.func158, Tryz.ntmps158
  go_wp2_with fail
  clear y0
  go_loopw [2, 3] (fun i j wr => ∃ k q : Nat, k + q = m ∧ k ≤ q + 1 ∧ i = .int .i64 k ∧ j = .int .i64 q ∧ BlkF wr g (m + 1) (fun t => .int .i64 (if t < k ∨ q < t then h (m - t) else h t)) ∧ Only g w wr ∧ Hid (∀ s, Shp g 3 s w → Shp g 3 s wr)) (fun i j _ => (intOf j - intOf i).toNat)
  case atStart => exact ⟨0, m, by omega, by omega, rfl, rfl, hB.congr (fun t ht => by rw [if_neg (by omega)]), Only.refl _ _, fun s hs => hs⟩
  case round =>
    clear hB
    obtain ⟨k, q, hkq, hle, rfl, rfl, hB, hw, hsh⟩ := hrel
    by_cases hlt : k < q
    · have t1 : (k : Int) < (q : Int) := by omega
      have i4 : k < m + 1 := by omega
      have i5 : q < m + 1 := by omega
      have i6 : (k : Int) < (m : Int) + 1 := by omega
      have i7 : (q : Int) < (m : Int) + 1 := by omega
      have b0 := hB.cell k i4
      have b1 := hB.cell q i5
      rw [if_neg (by omega)] at b0 b1
      obtain ⟨hk, hhk⟩ : ∃ hk, hk = h k := ⟨_, rfl⟩
      obtain ⟨hq, hhq⟩ : ∃ hq, hq = h q := ⟨_, rfl⟩
      rw [← hhk] at b0
      rw [← hhq] at b1
      have z0 := hB.fr k
      have z1 := hB.fr q
      have HB := hide hB
      have HK := hide hhk
      have HQ := hide hhq
      have hbl := hB.lt
      clear hB hhk hhq
      go_wp2
      refine wp_region_X (by kernel_rfl) (by kernel_rfl) ?_
      repeat' (refine wpX_stepQ (fun K hK => ?_)
               go_simp
               try (rw [if_neg (by intro h; simp [undef] at h)])
               try split
               all_goals
                 first
                 | (refine hK _ ?_
                    clear hK K)
                 | (apply Exists.intro
                    refine ⟨fun wq hwq => ?_, hK _ ?_⟩
                    · have hcq := hwq.cellS
                      go_simp
                      first
                      | exact ⟨Ext.refl _, rfl⟩
                    clear hK K))
      refine wpX_stepC rfl (by kernel_rfl) (fun K hK' wa hwa => ?_)
      have hca := hwa.cellS
      have hfa := hwa.frozenS
      go_simp
      refine hK' _ _ ?_
      clear hK' K hca hfa
      have hB1 := (HB.out.ext hwa).set k i4 (.int .i64 hq)
      have hO1 : Only g wr (wa.setCell ⟨g, k, none⟩ (.int .i64 hq)) := (Only.of_ext hwa).setCell _ _
      have hS1 : Hid (∀ s, Shp g 3 s w → Shp g 3 s (wa.setCell ⟨g, k, none⟩ (.int .i64 hq))) := fun s hs => ((hsh.out s hs).ext hwa).setCell ⟨g, k, none⟩ (.int .i64 hq)
      generalize wa.setCell ⟨g, k, none⟩ (.int .i64 hq) = w5 at hB1 hO1 hS1 ⊢
      have c1 := hB1.cell q i5
      rw [if_neg (by omega), if_neg (by omega), ← HQ.out] at c1
      have g1 := hB1.fr q
      have HB1 := hide hB1
      clear hB1 b0 b1 z0 z1
      repeat' (refine wpX_stepQ (fun K hK => ?_)
               go_simp
               try (rw [if_neg (by intro h; simp [undef] at h)])
               try split
               all_goals
                 first
                 | (refine hK _ ?_
                    clear hK K)
                 | (apply Exists.intro
                    refine ⟨fun wq hwq => ?_, hK _ ?_⟩
                    · have hcq := hwq.cellS
                      go_simp
                      first
                      | exact ⟨Ext.refl _, rfl⟩
                    clear hK K))
      refine wpX_stepL rfl (by kernel_rfl) (by kernel_rfl) (by kernel_rfl) (fun K hK wz hwz => ?_)
      have hcz := hwz.cellS
      have hfz := hwz.frozenS
      go_simp
      refine hK _ _ ?_
      clear hK K
      have y1 : wrap64 ((k : Int) + 1) = ((k + 1 : Nat) : Int) := by rw [IntWalk.wrap64_in _ (by omega)]; omega
      have y2 : wrap64 ((q : Int) - 1) = ((q - 1 : Nat) : Int) := by rw [IntWalk.wrap64_in _ (by omega)]; omega
      go_wp2
      clear y1 y2
      have hB2 := (HB1.out.ext hwz).set q i5 (.int .i64 hk)
      have hO2 : Only g wr (wz.setCell ⟨g, q, none⟩ (.int .i64 hk)) := (hO1.trans (Only.of_ext hwz)).setCell _ _
      refine ⟨⟨k + 1, q - 1, by omega, by omega, rfl, congrArg (Value.int .i64) (by omega), hB2.congr (fun t ht => ?_), hw.trans hO2, fun s hs => ((hS1.out s hs).ext hwz).setCell _ _⟩, by simp [intOf]; omega⟩
      by_cases e1 : t = q
      · subst e1
        rw [if_pos rfl, if_pos (by omega), HK.out, show m - t = k by omega]
      · rw [if_neg e1]
        by_cases e2 : t = k
        · subst e2
          rw [if_pos rfl, if_pos (by omega), HQ.out, show m - t = q by omega]
        · rw [if_neg e2]
          by_cases e3 : t < k ∨ q < t
          · rw [if_pos e3, if_pos (by omega)]
          · rw [if_neg e3, if_neg (by omega)]
    · have t1 : ¬ (k : Int) < (q : Int) := by omega
      go_wp2
      go_end0
      refine ⟨rfl, hB.congr (fun t ht => ?_), hw, hsh.out⟩
      try rw [show m + 1 - 1 - t = m - t by omega]
      by_cases e3 : t < k ∨ q < t
      · rw [if_pos e3]
      · rw [if_neg e3, show m - t = t by omega]

end Go.Proofs.YtilcdnkkabmbfaaGreat
