/- Rankings that are copied, raised, turned round and cut, of the program. Rankings that are raised, cut and turned round, of the program and of the spec. Rankings that are turned round or left by a candidate, and copies made by append. -/
import Derived.Test.YtkbbcglghfddjaaCg11
import Derived.Test.YtkbbcglghfddjaaCg10
import Derived.Test.YtkbbcglghfddjaaCg17
import Derived.Lib.BufferMore
import Derived.Test.YtkbbcglghfddjaaCg14
namespace Go.Proofs.Ytkbbcglghfddjaa
open Go.RowKit

/-- Block g holds s cells, all of which may be written. -/
def Shp (g : Nat) (e : TypeId) (s : Nat) (w : World) : Prop := ∃ cur, w.heap[g]? = some (.cells cur e (0, 0)) ∧ cur.size = s
set_option maxRecDepth 100000 in
theorem Shp.setCell {g : Nat} {e : TypeId} {s : Nat} {w : World} (h : Shp g e s w) (a : Addr) (v : Value) : Shp g e s (w.setCell a v) := by
  obtain ⟨cur, hh, hs⟩ := h
  unfold Shp
  simp only [World.setCell, Array.getElem?_modify]
  by_cases hb : a.block = g
  · rw [if_pos hb, hh]
    refine ⟨_, rfl, ?_⟩
    split
    · exact hs
    · rw [Array.size_setIfInBounds]; exact hs
  · rw [if_neg hb]; exact ⟨cur, hh, hs⟩
set_option maxRecDepth 100000 in
theorem Shp.setCells {g g' : Nat} {e : TypeId} {s : Nat} : ∀ (cs : List Value) (w : World) (o : Nat), Shp g e s w → Shp g e s (w.setCells g' o cs)
  | [], _, _, h => h
  | _ :: cs, _, _, h => Shp.setCells cs _ _ (h.setCell _ _)
set_option maxRecDepth 100000 in
theorem Shp.ext {g : Nat} {e : TypeId} {s : Nat} {w w' : World} (h : Shp g e s w) (hw : Ext w w') : Shp g e s w' := by
  obtain ⟨cur, hh, hs⟩ := h
  refine ⟨cur, ?_, hs⟩
  have hlt : g < w.heap.size := by
    rcases Nat.lt_or_ge g w.heap.size with hlt | hge
    · exact hlt
    · rw [Array.getElem?_eq_none hge] at hh; cases hh
  rw [Below.block hw g hlt]; exact hh
set_option maxRecDepth 100000 in
theorem OwnI.shp {w : World} {B g n c : Nat} {xs : List Int} (h : OwnI w B (.slice (some ⟨g, 0, none⟩) n c) xs) : Shp g 3 c w ∧ n = xs.length ∧ n ≤ c ∧ c ≤ maxLen ∧ B ≤ g ∧ BlkF w g n (fun j => .int .i64 (xs.getD j 0)) := by
  have h0 := h
  obtain ⟨h1, h2⟩ := h
  rcases h2 with ⟨e, _⟩ | ⟨g', cap, cur, e, hg, hh, hc, hm, hs, ht⟩
  · cases e
  · injection e with e1 e2 e3
    injection e1 with e1
    injection e1 with e1
    subst e1
    subst e2
    subst e3
    refine ⟨⟨cur, hh, by omega⟩, rfl, hc, hm, hg, ?_⟩
    by_cases hne : xs = []
    · subst hne
      have hlt : g < w.heap.size := by
        rcases Nat.lt_or_ge g w.heap.size with hlt | hge
        · exact hlt
        · rw [Array.getElem?_eq_none hge] at hh; cases hh
      exact ⟨hlt, fun o => by simp [World.frozen?, hh], fun o ho => by simp at ho⟩
    · obtain ⟨a, c', hv, _, _, _, hb⟩ := h0.val
      injection hv with v1 v2 v3
      obtain ⟨g2, hg2, _, hB⟩ := hb hne
      rw [← v1] at hg2
      injection hg2 with hg2
      injection hg2 with hg2
      subst hg2
      exact hB
set_option maxRecDepth 100000 in
/-- A block in which a list stands is a list of the call's own. -/
theorem Shp.own {w : World} {B g n c : Nat} {f : Nat → Value} {xs : List Int} (hs : Shp g 3 c w) (hB : BlkF w g n f) (hn : xs.length = n) (hf : ∀ (j : Nat) (x : Int), xs[j]? = some x → f j = .int .i64 x) (hg : B ≤ g) (hnc : n ≤ c) (hc : c ≤ maxLen) : OwnI w B (.slice (some ⟨g, 0, none⟩) n c) xs := by
  obtain ⟨cur, hh, hcs⟩ := hs
  subst hn
  refine ⟨by simp, .inr ⟨g, c, cur, rfl, hg, hh, hnc, hc, by omega, ?_⟩⟩
  refine List.ext_getElem? (fun j => ?_)
  rw [List.getElem?_take]
  by_cases hj : j < xs.length
  · rw [if_pos (by omega)]
    obtain ⟨x, hx⟩ := at_of_lt hj
    have h1 := hB.cell j hj
    rw [hf j x hx] at h1
    simp only [World.cell?, hh] at h1
    rw [List.getElem?_map, hx]
    simpa using h1
  · rw [if_neg (by omega), List.getElem?_eq_none (by rw [List.length_map]; omega)]

set_option maxRecDepth 100000 in
set_option maxHeartbeats 4000000 in
theorem delS_impl (w : World) (g n c i j : Nat) (f : Nat → Value) (hB : BlkF w g n f) (hij : i < j) (hj : j ≤ n) (hc : n ≤ c) (h1 : ∀ t, t < n → (f t).oneCell' = true) :
    Calls Try.prog 77 #[.slice (some ⟨g, 0, none⟩) n c, .int .i64 i, .int .i64 j] w fun e w' => e = .returned (.slice (some ⟨g, 0, none⟩) (n - (j - i)) c) ∧ BlkF w' g n (delF n f i j) ∧ Only g w w' ∧ ∀ s, Shp g 3 s w → Shp g 3 s w' := by
  obtain ⟨i0, hi, hz0, hz1, hz2⟩ := info_parts info_int
  obtain ⟨news, hnews⟩ : ∃ news : List Value, news = (List.range (n - j)).map (fun t => f (j + t)) := ⟨_, rfl⟩
  have hlen : news.length = n - j := by rw [hnews]; simp
  have hget : ∀ t, t < n - j → news[t]? = some (f (j + t)) := fun t ht => by rw [hnews]; simp [ht]
  have hBd : BlkF w.drew g n f := hB.ext ((Ext.refl w).drew)
  obtain ⟨A, hA, hsrc⟩ : ∃ A : Addr, (if c = j then some (⟨g, 0, none⟩ : Addr) else some ⟨g, j, none⟩) = some A ∧ Hid (∀ (t : Nat) u, news[t]? = some u → w.drew.cell? (A.add t) = some u) := by
    by_cases h : c = j
    · refine ⟨⟨g, 0, none⟩, by simp [h], fun t u hu => ?_⟩
      have := lt_of_at hu
      omega
    · refine ⟨⟨g, j, none⟩, by simp [h], fun t u hu => ?_⟩
      have ht := lt_of_at hu
      rw [hlen] at ht
      rw [hget t ht] at hu
      injection hu with hu
      rw [Addr.add_lit, ← hu]
      exact hBd.cell (j + t) (by omega)
  have s1 : Hid (news.length = (n - j) * 1) := by show _ = _; rw [Nat.mul_one]; exact hlen
  have s2 : Hid (∀ u ∈ news, u.oneCell' = true) := by
    intro u hu
    rw [hnews, List.mem_map] at hu
    obtain ⟨t, ht, rfl⟩ := hu
    have := List.mem_range.1 ht
    exact h1 _ (by omega)
  have s3 : Hid (∀ t, t < news.length → (w.drew.cell? ⟨g, 0 + i * 1 + t, none⟩).isSome = true ∧ w.drew.frozen? ⟨g, 0 + i * 1 + t, none⟩ = false) := by
    intro t ht
    rw [hlen] at ht
    rw [Nat.mul_one, Nat.zero_add]
    exact ⟨by rw [hBd.cell (i + t) (by omega)]; rfl, hBd.fr _⟩
  obtain ⟨W1, hW1⟩ : ∃ W1 : World, W1 = w.drew.setCells g (0 + i * 1) news := ⟨_, rfl⟩
  have hB1 : BlkF W1 g n (fun t => if i ≤ t ∧ t < i + (n - j) then f (j + (t - i)) else f t) := by
    have h := BlkF.setCells news w.drew f (0 + i * 1) hBd (by rw [hlen]; omega)
    rw [← hW1] at h
    refine h.congr (fun t ht => ?_)
    rw [hlen]
    by_cases e : i ≤ t ∧ t < i + (n - j)
    · have e' : 0 + i * 1 ≤ t ∧ t < 0 + i * 1 + (n - j) := by omega
      rw [if_pos e, if_pos e', List.getD_eq_getElem?_getD, hget _ (by omega)]
      simp
    · have e' : ¬ (0 + i * 1 ≤ t ∧ t < 0 + i * 1 + (n - j)) := by omega
      rw [if_neg e, if_neg e']
  have hO1 : Only g w W1 := by
    have key : ∀ (cs : List Value) (w0 : World) (o : Nat), Only g w w0 → Only g w (w0.setCells g o cs) := by
      intro cs
      induction cs with
      | nil => intro w0 o h; exact h
      | cons x cs ih => intro w0 o h; exact ih _ _ (h.setCell o x)
    rw [hW1]
    exact key _ _ _ (Only.of_ext ((Ext.refl w).drew))
  have hcl : ∀ ty, (Builtin.clear_ #[31] ty #[.slice (some ⟨g, i + (n - j), none⟩) (n - (i + (n - j))) (c - (i + (n - j)))]).run Try.prog W1 = .ok (.tuple #[]) (W1.setCells g (i + (n - j)) (List.replicate (n - (i + (n - j))) (.int .i64 0))) :=
    fun ty => Lib.run_clear_slice W1 _ _ ty _ Try.underlying31 (fun w => by kernel_rfl) rfl rfl g (i + (n - j)) _ _ (by omega) (fun t ht => by rw [hB1.cell _ (by omega)]; rfl) (fun t ht => hB1.fr _)
  have HB := hide hB1
  have HO := hide hO1
  have hW : Hid (W1 = w.drew.setCells g (0 + i * 1) news) := hW1
  have hic : i ≤ c := by omega
  have hjc : j ≤ c := by omega
  have hin : i ≤ n := by omega
  clear hW1 hB1 hO1 hBd hB hget hnews hlen h1
  go_enter Try.func77, Try.ntmps77
  go_wp2_with fail
  go_region_law (refine step_append_room rfl (.tmp 22) (.tmp 25) 31 rfl 3 i0 1 Try.underlying31 hi hz1 g 0 i c (by simp [Act.eval, Act.put]) A (n - j) (c - j) news (by simp [Act.eval, Act.put]) s1.out hsrc.out s2.out (by omega) s3.out ?_; rw [← hW.out])
  go_wp2
  go_ret
  have hfin := BlkF.setCells (List.replicate (n - (i + (n - j))) (.int .i64 0)) W1 _ (i + (n - j)) HB.out (by rw [List.length_replicate]; omega)
  have key : ∀ (cs : List Value) (w0 : World) (o : Nat), Only g w w0 → Only g w (w0.setCells g o cs) := by
    intro cs
    induction cs with
    | nil => intro w0 o h; exact h
    | cons x cs ih => intro w0 o h; exact ih _ _ (h.setCell o x)
  refine ⟨by rw [show n - (j - i) = i + (n - j) by omega]; rfl, hfin.congr (fun t ht => ?_), key _ _ _ HO.out, fun s hs => Shp.setCells _ _ _ (by rw [hW.out]; exact Shp.setCells _ _ _ hs)⟩
  unfold delF
  rw [List.length_replicate]
  by_cases e1 : i + (n - j) ≤ t ∧ t < i + (n - j) + (n - (i + (n - j)))
  · rw [if_pos e1, List.getD_eq_getElem?_getD, List.getElem?_replicate, if_pos (by omega), if_neg (by omega), if_neg (by omega)]; rfl
  · rw [if_neg e1]
    by_cases e2 : t < i
    · rw [if_neg (by omega), if_pos e2]
    · rw [if_pos (by omega), if_neg e2, if_pos (by omega), show j + (t - i) = t + (j - i) by omega]

set_option maxRecDepth 100000 in
set_option maxHeartbeats 1000000 in
theorem cln_impl (w : World) (a : Option Addr) (c : Nat) (xs : List Int) (hR : RdI w a xs) (hl : xs.length ≤ 1000000) :
    Calls Try.prog 63 #[.slice a xs.length c] w fun e w' => ∃ v, e = .returned v ∧ OwnI w' w.heap.size v xs ∧ Ext w w' := by
  have hnil : ∀ (W : World) (a : Addr) (n c : Nat), (binOp .eql 31 (.slice (some a) n c) (.slice none 0 0)).run Try.prog W = .ok (.bool false) W := fun W a n c => Lib.run_eql_slice_some_nil W a n c Try.underlying31
  have hnn : ∀ (W : World) (n c : Nat), (binOp .eql 31 (.slice none n c) (.slice none 0 0)).run Try.prog W = .ok (.bool true) W := fun W n c => Lib.run_eql_slice_nil_nil W n c Try.underlying31
  cases a with
  | none =>
    have hx : xs = [] := by
      by_cases h : xs = []
      · exact h
      · obtain ⟨_, _, h, _⟩ := hR h
        cases h
    subst hx
    go_enter Try.func63, Try.ntmps63
    go_wp2
    go_ret
    exact ⟨_, rfl, OwnI.nil _ _, Ext.refl _⟩
  | some a =>
    have hO := OwnI.made0 w
    have hE := Ext.new w (.cells #[] 3)
    go_enter Try.func63, Try.ntmps63
    go_wp2_with (at_builtin; go_loud (refine wpList_appG w.heap.size _ rfl _ _ rfl _ [] xs rfl (by exact hO) hE.size (some a) _ c rfl rfl (hR.ext hE) (by simp; omega) ?_); intro v1 w3 hO3 hg3 _)
    go_ret
    refine ⟨_, rfl, hO3, Ext.grown hE hg3 (fun k hk => ownsRow_block hO k hk)⟩

set_option maxRecDepth 100000 in
theorem place_some {xs : List Int} {x : Int} (h : 0 ≤ placeI xs x) : ∃ i : Nat, placeI xs x = i ∧ i < xs.length ∧ xs[i]? = some x := by
  unfold placeI findI at h ⊢
  split at h
  · rename_i k hk
    rw [List.findIdx?_eq_some_iff_getElem] at hk
    obtain ⟨h1, h2, _⟩ := hk
    have h3 : x = xs[k] := by simpa using h2
    exact ⟨k, rfl, h1, by rw [List.getElem?_eq_getElem h1, ← h3]⟩
  · omega
set_option maxRecDepth 100000 in
theorem OwnI.some {w : World} {B : Nat} {v : Value} {xs : List Int} (h : OwnI w B v xs) (hne : 0 < xs.length) : ∃ g c, v = .slice (some ⟨g, 0, none⟩) xs.length c := by
  obtain ⟨a, c, hv, _, _, _, hb⟩ := h.val
  obtain ⟨g, hg, _⟩ := hb (fun e => by rw [e] at hne; simp at hne)
  exact ⟨g, c, by rw [hv, hg]⟩

set_option maxRecDepth 100000 in
/-- A list that is read appended to an empty one of the call's own: what was there stays. -/
theorem run_cpy (ws : World) (B g : Nat) (ty : TypeId) (hO : OwnI ws B (.slice (some ⟨g, 0, none⟩) 0 0) []) (hB : B ≤ ws.heap.size) (ax : Option Addr) (ys : List Int) (c : Nat) (hR : RdI ws ax ys) (hl : ys.length ≤ 100000) :
    ∃ v' w', (Builtin.append_ #[31, 31] ty #[.slice (some ⟨g, 0, none⟩) 0 0, .slice ax ys.length c]).run Try.prog ws = .ok v' w' ∧ OwnI w' B v' ys ∧ Ext ws w' := by
  obtain ⟨i0, hi, hz0, hz1, hz2⟩ := info_parts info_int
  by_cases hne : ys = []
  · subst hne
    exact ⟨_, ws, run_append_none ws B 31 ty 3 i0 1 Try.underlying31 hi _ 0 [] hO ax c, hO, Ext.refl _⟩
  · obtain ⟨b, off, rfl, hc⟩ := hR hne
    have hp : 0 < ys.length := List.length_pos_iff.2 hne
    have hcell : ∀ (j : Nat) u, (ys.map (Value.int .i64))[j]? = some u → ws.cell? ((⟨b, off, none⟩ : Addr).add j) = some u := fun j u hj => by
      rw [List.getElem?_map, Option.map_eq_some_iff] at hj
      obtain ⟨y, hy, rfl⟩ := hj
      have := hc j y hy
      by_cases hj0 : j = 0
      · subst hj0
        simpa [Addr.add] using this
      · simpa [Addr.add, hj0] using this
    obtain ⟨v', w', hr, h1, h2, h3⟩ := run_append_any (P := Try.prog) ws B 31 ty 3 i0 (.int .i64 0) 1 8 Try.underlying31 hi hz0 hz1 hz2 rfl (by decide) _ _ _ hO (some ⟨b, off, none⟩) ys.length c (ys.map (Value.int .i64)) (by simp)
      (fun _ => ⟨_, rfl, hcell⟩) (fun u hu => by
        obtain ⟨y, _, rfl⟩ := List.mem_map.1 hu
        rfl) (by unfold maxLen; simp; omega) (by simp; omega) hB
    have hr2 := run_append_grow (P := Try.prog) ws 31 ty 3 i0 (.int .i64 0) Try.underlying31 hi hz0 ⟨g, 0, none⟩ 0 0 [] (by simp) (fun j v h => by simp at h) ⟨b, off, none⟩ ys.length c (ys.map (Value.int .i64)) (by rw [hz1]; simp) hcell (by omega) (by simp; omega)
      (growslice_fits (by omega) (by rw [hz2]; omega))
    have hr' := hr
    rw [hr] at hr2
    injection hr2 with e1 e2
    refine ⟨v', w', hr', ?_, ?_⟩
    · have h1' : w'.ownsRow B 3 1 v' (0 + ys.length) ([] ++ ys.map (Value.int .i64)) := h1
      rw [Nat.zero_add, List.nil_append] at h1'
      exact h1'
    · rw [e2]
      exact ((Ext.refl ws).drew).alloc _
set_option maxRecDepth 100000 in
theorem oper_cpyI {o : Oper} {a : Act} {K : World → Act → Prop} (wq ws : World) (hws : Ext (wq.alloc (.cells #[] 3)) ws) (s x : Operand)
    (ho : o.op = .call { callee := .builtin .append, args := #[s, x], argTypes := #[31, 31] }) (ys : List Int) (ax : Option Addr) (n c : Nat) (hn : n = ys.length)
    (hs : a.eval s = .slice (some ⟨wq.heap.size, 0, none⟩) 0 0) (hx : a.eval x = .slice ax n c) (hR : RdI ws ax ys) (hl : ys.length ≤ 100000)
    (h : ∀ v' w', OwnI w' wq.heap.size v' ys → Ext ws w' → Ext ws w' ∧ K w' (a.put o.dst v')) : o.wp Try.prog a ws (fun a' w' => Ext ws w' ∧ K w' a') NoExit := by
  subst hn
  have hsz := hws.size
  have hs2 : (wq.alloc (.cells #[] 3)).heap.size = wq.heap.size + 1 := by simp
  obtain ⟨v', w', hr, h1, h2⟩ := run_cpy ws wq.heap.size wq.heap.size o.type ((OwnI.made0 wq).ext hws) (by omega) ax ys c hR hl
  unfold Oper.wp execOp
  simp only [ho, resolve, invoke, builtin, Sem.run_bind, Sem.run_pure, Result.andThen_ok, List.map_toArray, List.map_cons, List.map_nil, hs, hx, hr]
  exact h v' w' h1 h2

set_option maxRecDepth 100000 in
set_option maxHeartbeats 4000000 in
theorem rvs_impl (w : World) (g n c : Nat) (h : Nat → Int) (n1 : 1 ≤ n) (n5 : n ≤ 1000) (hB : BlkF w g n (fun t => .int .i64 (h t))) (hnc : n ≤ c) :
    Calls Try.prog 64 #[.slice (some ⟨g, 0, none⟩) n c] w fun e w' => e = .returned (.tuple #[]) ∧ BlkF w' g n (fun t => .int .i64 (h (n - 1 - t))) ∧ Only g w w' ∧ ∀ s, Shp g 3 s w → Shp g 3 s w' := by
  obtain ⟨m, rfl⟩ : ∃ m, n = m + 1 := ⟨n - 1, by omega⟩
  have y0 : wrap64 (((m + 1 : Nat) : Int) - 1) = (m : Int) := by rw [IntWalk.wrap64_in _ (by omega)]; omega
  go_enter Try.func64, Try.ntmps64
  go_wp2_with fail
  clear y0
  go_loopw [2, 3] (fun i j wr => ∃ k q : Nat, k + q = m ∧ k ≤ q + 1 ∧ i = .int .i64 k ∧ j = .int .i64 q ∧ BlkF wr g (m + 1) (fun t => .int .i64 (if t < k ∨ q < t then h (m - t) else h t)) ∧ Only g w wr ∧ Hid (∀ s, Shp g 3 s w → Shp g 3 s wr)) (fun i j _ => (intOf j - intOf i).toNat)
  case atStart => exact ⟨0, m, by omega, by omega, rfl, rfl, hB.congr (fun t ht => by rw [if_neg (by omega)]), Only.refl _ _, fun s hs => hs⟩
  case round =>
    clear hB
    obtain ⟨k, q, hkq, hle, rfl, rfl, hB, hw, hsh⟩ := hrel
    by_cases hlt : k < q
    · have t1 : (k : Int) < (q : Int) := by omega
      have i4 : k < m + 1 := by omega
      have i5 : q < m + 1 := by omega
      have i6 : (k : Int) < (m : Int) + 1 := by omega
      have i7 : (q : Int) < (m : Int) + 1 := by omega
      have b0 := hB.cell k i4
      have b1 := hB.cell q i5
      rw [if_neg (by omega)] at b0 b1
      obtain ⟨hk, hhk⟩ : ∃ hk, hk = h k := ⟨_, rfl⟩
      obtain ⟨hq, hhq⟩ : ∃ hq, hq = h q := ⟨_, rfl⟩
      rw [← hhk] at b0
      rw [← hhq] at b1
      have z0 := hB.fr k
      have z1 := hB.fr q
      have HB := hide hB
      have HK := hide hhk
      have HQ := hide hhq
      have hbl := hB.lt
      clear hB hhk hhq
      go_wp2
      refine wp_region_X (by kernel_rfl) (by kernel_rfl) ?_
      repeat' (refine wpX_stepQ (fun K hK => ?_)
               go_simp
               try (rw [if_neg (by intro h; simp [undef] at h)])
               try split
               all_goals
                 first
                 | (refine hK _ ?_
                    clear hK K)
                 | (apply Exists.intro
                    refine ⟨fun wq hwq => ?_, hK _ ?_⟩
                    · have hcq := hwq.cellS
                      go_simp
                      first
                      | exact ⟨Ext.refl _, rfl⟩
                    clear hK K))
      refine wpX_stepC rfl (by kernel_rfl) (fun K hK' wa hwa => ?_)
      have hca := hwa.cellS
      have hfa := hwa.frozenS
      go_simp
      refine hK' _ _ ?_
      clear hK' K hca hfa
      have hB1 := (HB.out.ext hwa).set k i4 (.int .i64 hq)
      have hO1 : Only g wr (wa.setCell ⟨g, k, none⟩ (.int .i64 hq)) := (Only.of_ext hwa).setCell _ _
      have hS1 : Hid (∀ s, Shp g 3 s w → Shp g 3 s (wa.setCell ⟨g, k, none⟩ (.int .i64 hq))) := fun s hs => ((hsh.out s hs).ext hwa).setCell ⟨g, k, none⟩ (.int .i64 hq)
      generalize wa.setCell ⟨g, k, none⟩ (.int .i64 hq) = w5 at hB1 hO1 hS1 ⊢
      have c1 := hB1.cell q i5
      rw [if_neg (by omega), if_neg (by omega), ← HQ.out] at c1
      have g1 := hB1.fr q
      have HB1 := hide hB1
      clear hB1 b0 b1 z0 z1
      repeat' (refine wpX_stepQ (fun K hK => ?_)
               go_simp
               try (rw [if_neg (by intro h; simp [undef] at h)])
               try split
               all_goals
                 first
                 | (refine hK _ ?_
                    clear hK K)
                 | (apply Exists.intro
                    refine ⟨fun wq hwq => ?_, hK _ ?_⟩
                    · have hcq := hwq.cellS
                      go_simp
                      first
                      | exact ⟨Ext.refl _, rfl⟩
                    clear hK K))
      refine wpX_stepL rfl (by kernel_rfl) (by kernel_rfl) (by kernel_rfl) (fun K hK wz hwz => ?_)
      have hcz := hwz.cellS
      have hfz := hwz.frozenS
      go_simp
      refine hK _ _ ?_
      clear hK K
      have y1 : wrap64 ((k : Int) + 1) = ((k + 1 : Nat) : Int) := by rw [IntWalk.wrap64_in _ (by omega)]; omega
      have y2 : wrap64 ((q : Int) - 1) = ((q - 1 : Nat) : Int) := by rw [IntWalk.wrap64_in _ (by omega)]; omega
      go_wp2
      clear y1 y2
      have hB2 := (HB1.out.ext hwz).set q i5 (.int .i64 hk)
      have hO2 : Only g wr (wz.setCell ⟨g, q, none⟩ (.int .i64 hk)) := (hO1.trans (Only.of_ext hwz)).setCell _ _
      refine ⟨⟨k + 1, q - 1, by omega, by omega, rfl, congrArg (Value.int .i64) (by omega), hB2.congr (fun t ht => ?_), hw.trans hO2, fun s hs => ((hS1.out s hs).ext hwz).setCell _ _⟩, by simp [intOf]; omega⟩
      by_cases e1 : t = q
      · subst e1
        rw [if_pos rfl, if_pos (by omega), HK.out, show m - t = k by omega]
      · rw [if_neg e1]
        by_cases e2 : t = k
        · subst e2
          rw [if_pos rfl, if_pos (by omega), HQ.out, show m - t = q by omega]
        · rw [if_neg e2]
          by_cases e3 : t < k ∨ q < t
          · rw [if_pos e3, if_pos (by omega)]
          · rw [if_neg e3, if_neg (by omega)]
    · have t1 : ¬ (k : Int) < (q : Int) := by omega
      go_wp2
      go_end0
      refine ⟨rfl, hB.congr (fun t ht => ?_), hw, hsh.out⟩
      try rw [show m + 1 - 1 - t = m - t by omega]
      by_cases e3 : t < k ∨ q < t
      · rw [if_pos e3]
      · rw [if_neg e3, show m - t = t by omega]

end Go.Proofs.Ytkbbcglghfddjaa
