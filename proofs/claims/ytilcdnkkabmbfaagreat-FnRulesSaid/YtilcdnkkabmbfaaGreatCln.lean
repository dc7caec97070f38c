/- Rankings that are copied, raised, turned round and cut, of the program. -/
import Derived.Test.YtilcdnkkabmbfaaGreatCk11
import Derived.Test.YtilcdnkkabmbfaaGreatCk18
import Derived.Test.YtilcdnkkabmbfaaGreatModA
import Derived.Lib.BufferMore
namespace Go.Proofs.YtilcdnkkabmbfaaGreat
open Go.RowKit

/-- Block g holds s cells, all of which may be written. -/
def Shp (g : Nat) (e : TypeId) (s : Nat) (w : World) : Prop := ∃ cur, w.heap[g]? = some (.cells cur e (0, 0)) ∧ cur.size = s
set_option maxRecDepth 100000 in
theorem Shp.setCell {g : Nat} {e : TypeId} {s : Nat} {w : World} (h : Shp g e s w) (a : Addr) (v : Value) : Shp g e s (w.setCell a v) := by
  obtain ⟨cur, hh, hs⟩ := h
  unfold Shp
  simp only [World.setCell, Array.getElem?_modify]
  by_cases hb : a.block = g
  · rw [if_pos hb, hh]
    refine ⟨_, rfl, ?_⟩
    split
    · exact hs
    · rw [Array.size_setIfInBounds]; exact hs
  · rw [if_neg hb]; exact ⟨cur, hh, hs⟩
set_option maxRecDepth 100000 in
theorem Shp.setCells {g g' : Nat} {e : TypeId} {s : Nat} : ∀ (cs : List Value) (w : World) (o : Nat), Shp g e s w → Shp g e s (w.setCells g' o cs)
  | [], _, _, h => h
  | _ :: cs, _, _, h => Shp.setCells cs _ _ (h.setCell _ _)
set_option maxRecDepth 100000 in
theorem Shp.ext {g : Nat} {e : TypeId} {s : Nat} {w w' : World} (h : Shp g e s w) (hw : Ext w w') : Shp g e s w' := by
  obtain ⟨cur, hh, hs⟩ := h
  refine ⟨cur, ?_, hs⟩
  have hlt : g < w.heap.size := by
    rcases Nat.lt_or_ge g w.heap.size with hlt | hge
    · exact hlt
    · rw [Array.getElem?_eq_none hge] at hh; cases hh
  rw [Below.block hw g hlt]; exact hh
set_option maxRecDepth 100000 in
theorem OwnI.shp {w : World} {B g n c : Nat} {xs : List Int} (h : OwnI w B (.slice (some ⟨g, 0, none⟩) n c) xs) : Shp g 3 c w ∧ n = xs.length ∧ n ≤ c ∧ c ≤ maxLen ∧ B ≤ g ∧ BlkF w g n (fun j => .int .i64 (xs.getD j 0)) := by
  have h0 := h
  obtain ⟨h1, h2⟩ := h
  rcases h2 with ⟨e, _⟩ | ⟨g', cap, cur, e, hg, hh, hc, hm, hs, ht⟩
  · cases e
  · injection e with e1 e2 e3
    injection e1 with e1
    injection e1 with e1
    subst e1
    subst e2
    subst e3
    refine ⟨⟨cur, hh, by omega⟩, rfl, hc, hm, hg, ?_⟩
    by_cases hne : xs = []
    · subst hne
      have hlt : g < w.heap.size := by
        rcases Nat.lt_or_ge g w.heap.size with hlt | hge
        · exact hlt
        · rw [Array.getElem?_eq_none hge] at hh; cases hh
      exact ⟨hlt, fun o => by simp [World.frozen?, hh], fun o ho => by simp at ho⟩
    · obtain ⟨a, c', hv, _, _, _, hb⟩ := h0.val
      injection hv with v1 v2 v3
      obtain ⟨g2, hg2, _, hB⟩ := hb hne
      rw [← v1] at hg2
      injection hg2 with hg2
      injection hg2 with hg2
      subst hg2
      exact hB
set_option maxRecDepth 100000 in
/-- A block in which a list stands is a list of the call's own. -/
theorem Shp.own {w : World} {B g n c : Nat} {f : Nat → Value} {xs : List Int} (hs : Shp g 3 c w) (hB : BlkF w g n f) (hn : xs.length = n) (hf : ∀ (j : Nat) (x : Int), xs[j]? = some x → f j = .int .i64 x) (hg : B ≤ g) (hnc : n ≤ c) (hc : c ≤ maxLen) : OwnI w B (.slice (some ⟨g, 0, none⟩) n c) xs := by
  obtain ⟨cur, hh, hcs⟩ := hs
  subst hn
  refine ⟨by simp, .inr ⟨g, c, cur, rfl, hg, hh, hnc, hc, by omega, ?_⟩⟩
  refine List.ext_getElem? (fun j => ?_)
  rw [List.getElem?_take]
  by_cases hj : j < xs.length
  · rw [if_pos (by omega)]
    obtain ⟨x, hx⟩ := at_of_lt hj
    have h1 := hB.cell j hj
    rw [hf j x hx] at h1
    simp only [World.cell?, hh] at h1
    rw [List.getElem?_map, hx]
    simpa using h1
  · rw [if_neg (by omega), List.getElem?_eq_none (by rw [List.length_map]; omega)]

set_option maxRecDepth 100000 in
set_option maxHeartbeats 4000000 in
theorem delS_impl (w : World) (g n c i j : Nat) (f : Nat → Value) (hB : BlkF w g n f) (hij : i < j) (hj : j ≤ n) (hc : n ≤ c) (h1 : ∀ t, t < n → (f t).oneCell' = true) :
    Calls Tryz.prog 112 #[.slice (some ⟨g, 0, none⟩) n c, .int .i64 i, .int .i64 j] w fun e w' => e = .returned (.slice (some ⟨g, 0, none⟩) (n - (j - i)) c) ∧ BlkF w' g n (delF n f i j) ∧ Only g w w' ∧ ∀ s, Shp g 3 s w → Shp g 3 s w' := by
  obtain ⟨i0, hi, hz0, hz1, hz2⟩ := info_parts info_int
  obtain ⟨news, hnews⟩ : ∃ news : List Value, news = (List.range (n - j)).map (fun t => f (j + t)) := ⟨_, rfl⟩
  have hlen : news.length = n - j := by rw [hnews]; simp
  have hget : ∀ t, t < n - j → news[t]? = some (f (j + t)) := fun t ht => by rw [hnews]; simp [ht]
  have hBd : BlkF w.drew g n f := hB.ext ((Ext.refl w).drew)
  obtain ⟨A, hA, hsrc⟩ : ∃ A : Addr, (if c = j then some (⟨g, 0, none⟩ : Addr) else some ⟨g, j, none⟩) = some A ∧ Hid (∀ (t : Nat) u, news[t]? = some u → w.drew.cell? (A.add t) = some u) := by
    by_cases h : c = j
    · refine ⟨⟨g, 0, none⟩, by simp [h], fun t u hu => ?_⟩
      have := lt_of_at hu
      omega
    · refine ⟨⟨g, j, none⟩, by simp [h], fun t u hu => ?_⟩
      have ht := lt_of_at hu
      rw [hlen] at ht
      rw [hget t ht] at hu
      injection hu with hu
      rw [Addr.add_lit, ← hu]
      exact hBd.cell (j + t) (by omega)
  have s1 : Hid (news.length = (n - j) * 1) := by show _ = _; rw [Nat.mul_one]; exact hlen
  have s2 : Hid (∀ u ∈ news, u.oneCell' = true) := by
    intro u hu
    rw [hnews, List.mem_map] at hu
    obtain ⟨t, ht, rfl⟩ := hu
    have := List.mem_range.1 ht
    exact h1 _ (by omega)
  have s3 : Hid (∀ t, t < news.length → (w.drew.cell? ⟨g, 0 + i * 1 + t, none⟩).isSome = true ∧ w.drew.frozen? ⟨g, 0 + i * 1 + t, none⟩ = false) := by
    intro t ht
    rw [hlen] at ht
    rw [Nat.mul_one, Nat.zero_add]
    exact ⟨by rw [hBd.cell (i + t) (by omega)]; rfl, hBd.fr _⟩
  obtain ⟨W1, hW1⟩ : ∃ W1 : World, W1 = w.drew.setCells g (0 + i * 1) news := ⟨_, rfl⟩
  have hB1 : BlkF W1 g n (fun t => if i ≤ t ∧ t < i + (n - j) then f (j + (t - i)) else f t) := by
    have h := BlkF.setCells news w.drew f (0 + i * 1) hBd (by rw [hlen]; omega)
    rw [← hW1] at h
    refine h.congr (fun t ht => ?_)
    rw [hlen]
    by_cases e : i ≤ t ∧ t < i + (n - j)
    · have e' : 0 + i * 1 ≤ t ∧ t < 0 + i * 1 + (n - j) := by omega
      rw [if_pos e, if_pos e', List.getD_eq_getElem?_getD, hget _ (by omega)]
      simp
    · have e' : ¬ (0 + i * 1 ≤ t ∧ t < 0 + i * 1 + (n - j)) := by omega
      rw [if_neg e, if_neg e']
  have hO1 : Only g w W1 := by
    have key : ∀ (cs : List Value) (w0 : World) (o : Nat), Only g w w0 → Only g w (w0.setCells g o cs) := by
      intro cs
      induction cs with
      | nil => intro w0 o h; exact h
      | cons x cs ih => intro w0 o h; exact ih _ _ (h.setCell o x)
    rw [hW1]
    exact key _ _ _ (Only.of_ext ((Ext.refl w).drew))
  have hcl : ∀ ty, (Builtin.clear_ #[36] ty #[.slice (some ⟨g, i + (n - j), none⟩) (n - (i + (n - j))) (c - (i + (n - j)))]).run Tryz.prog W1 = .ok (.tuple #[]) (W1.setCells g (i + (n - j)) (List.replicate (n - (i + (n - j))) (.int .i64 0))) :=
    fun ty => Lib.run_clear_slice W1 _ _ ty _ Tryz.underlying36 (fun w => by kernel_rfl) rfl rfl g (i + (n - j)) _ _ (by omega) (fun t ht => by rw [hB1.cell _ (by omega)]; rfl) (fun t ht => hB1.fr _)
  have HB := hide hB1
  have HO := hide hO1
  have hW : Hid (W1 = w.drew.setCells g (0 + i * 1) news) := hW1
  have hic : i ≤ c := by omega
  have hjc : j ≤ c := by omega
  have hin : i ≤ n := by omega
  clear hW1 hB1 hO1 hBd hB hget hnews hlen h1
  go_enter Tryz.func112, Tryz.ntmps112
  go_wp2_with fail
  go_region_law (refine step_append_room rfl (.tmp 22) (.tmp 25) 36 rfl 3 i0 1 Tryz.underlying36 hi hz1 g 0 i c (by simp [Act.eval, Act.put]) A (n - j) (c - j) news (by simp [Act.eval, Act.put]) s1.out hsrc.out s2.out (by omega) s3.out ?_; rw [← hW.out])
  go_wp2
  go_ret
  have hfin := BlkF.setCells (List.replicate (n - (i + (n - j))) (.int .i64 0)) W1 _ (i + (n - j)) HB.out (by rw [List.length_replicate]; omega)
  have key : ∀ (cs : List Value) (w0 : World) (o : Nat), Only g w w0 → Only g w (w0.setCells g o cs) := by
    intro cs
    induction cs with
    | nil => intro w0 o h; exact h
    | cons x cs ih => intro w0 o h; exact ih _ _ (h.setCell o x)
  refine ⟨by rw [show n - (j - i) = i + (n - j) by omega]; rfl, hfin.congr (fun t ht => ?_), key _ _ _ HO.out, fun s hs => Shp.setCells _ _ _ (by rw [hW.out]; exact Shp.setCells _ _ _ hs)⟩
  unfold delF
  rw [List.length_replicate]
  by_cases e1 : i + (n - j) ≤ t ∧ t < i + (n - j) + (n - (i + (n - j)))
  · rw [if_pos e1, List.getD_eq_getElem?_getD, List.getElem?_replicate, if_pos (by omega), if_neg (by omega), if_neg (by omega)]; rfl
  · rw [if_neg e1]
    by_cases e2 : t < i
    · rw [if_neg (by omega), if_pos e2]
    · rw [if_pos (by omega), if_neg e2, if_pos (by omega), show j + (t - i) = t + (j - i) by omega]

set_option maxRecDepth 100000 in
set_option maxHeartbeats 1000000 in
theorem cln_impl (w : World) (a : Option Addr) (c : Nat) (xs : List Int) (hR : RdI w a xs) (hl : xs.length ≤ 1000000) :
    Calls Tryz.prog 118 #[.slice a xs.length c] w fun e w' => ∃ v, e = .returned v ∧ OwnI w' w.heap.size v xs ∧ Ext w w' := by
  have hnil : ∀ (W : World) (a : Addr) (n c : Nat), (binOp .eql 36 (.slice (some a) n c) (.slice none 0 0)).run Tryz.prog W = .ok (.bool false) W := fun W a n c => Lib.run_eql_slice_some_nil W a n c Tryz.underlying36
  have hnn : ∀ (W : World) (n c : Nat), (binOp .eql 36 (.slice none n c) (.slice none 0 0)).run Tryz.prog W = .ok (.bool true) W := fun W n c => Lib.run_eql_slice_nil_nil W n c Tryz.underlying36
  cases a with
  | none =>
    have hx : xs = [] := by
      by_cases h : xs = []
      · exact h
      · obtain ⟨_, _, h, _⟩ := hR h
        cases h
    subst hx
    go_enter Tryz.func118, Tryz.ntmps118
    go_wp2
    go_ret
    exact ⟨_, rfl, OwnI.nil _ _, Ext.refl _⟩
  | some a =>
    have hO := OwnI.made0 w
    have hE := Ext.new w (.cells #[] 3)
    go_enter Tryz.func118, Tryz.ntmps118
    go_wp2_with (at_builtin; go_loud (refine wpList_appG w.heap.size _ rfl _ _ rfl _ [] xs rfl (by exact hO) hE.size (some a) _ c rfl rfl (hR.ext hE) (by simp; omega) ?_); intro v1 w3 hO3 hg3 _)
    go_ret
    refine ⟨_, rfl, hO3, Ext.grown hE hg3 (fun k hk => ownsRow_block hO k hk)⟩

end Go.Proofs.YtilcdnkkabmbfaaGreat
