/- A whole list appended to a list of the call's own, wherever it lies (also an empty one that lies nowhere). slices.Delete and slices.Clone of integers. Eliminations of the program: by a worth, any worth. The ranking by scores, of the spec. -/
import Derived.Test.YtilcdnkkabmbfaaGreatCk10
import Derived.Test.YtilcdnkkabmbfaaGreatCk3
import Derived.Laws.IdiomCopy
import Derived.Deep.RegionLaw
import Derived.Lib.SliceRun
import Derived.Test.YtilcdnkkabmbfaaGreatCk9
import Derived.Test.YtilcdnkkabmbfaaGreatCk7
import Derived.Test.YtilcdnkkabmbfaaGreatCk5
namespace Go.Proofs.YtilcdnkkabmbfaaGreat
open Go.RowKit

set_option maxRecDepth 100000 in
theorem run_append_none {P : Program} (w : World) (base : Nat) (t ty e : TypeId) (i : TypeInfo) (size : Nat) (ht : P.underlying t = some (.slice e)) (hi : P.info? e = some i)
    (v : Value) (n : Nat) (xs : List Value) (hown : w.ownsRow base e size v n xs) (ax : Option Addr) (c : Nat) :
    (Builtin.append_ #[t, t] ty #[v, .slice ax 0 c]).run P w = .ok v w := by
  rcases hown.2 with ⟨rfl, rfl⟩ | ⟨g, cap, cur, rfl, _, _, hnc, _⟩ <;> cases ax
  · simp [Builtin.append_, run_underlying ht, sizeOf, typeInfo, hi, Builtin.lenOf, Builtin.firstCells]
  · simp [Builtin.append_, run_underlying ht, sizeOf, typeInfo, hi, Builtin.lenOf, Builtin.firstCells, loadCells, loadCellsFrom]
  · simp [Builtin.append_, run_underlying ht, sizeOf, typeInfo, hi, Builtin.lenOf, Builtin.firstCells, hnc, storeCells]
  · simp [Builtin.append_, run_underlying ht, sizeOf, typeInfo, hi, Builtin.lenOf, Builtin.firstCells, hnc, storeCells, loadCells, loadCellsFrom]

set_option maxRecDepth 100000 in
theorem run_append_any {P : Program} (w : World) (base : Nat) (t ty e : TypeId) (i : TypeInfo) (z : Value) (size bytes : Nat) (ht : P.underlying t = some (.slice e)) (hi : P.info? e = some i) (hz : i.zero = some z)
    (hsize : i.size = size) (hby : i.bytes = bytes) (hzs : z.cells.size = size) (hsz : 0 < size)
    (v : Value) (n : Nat) (xs : List Value) (hown : w.ownsRow base e size v n xs)
    (ax : Option Addr) (m c : Nat) (news : List Value) (hl : news.length = m * size) (hnews : news ≠ [] → ∃ a, ax = some a ∧ ∀ (j : Nat) u, news[j]? = some u → w.cell? (a.add j) = some u) (h1 : ∀ u ∈ news, u.oneCell' = true)
    (h63 : n + m ≤ maxLen) (hbytes : (n + m) * bytes ≤ 140737488355328) (hbase : base ≤ w.heap.size) :
    ∃ v' w', (Builtin.append_ #[t, t] ty #[v, .slice ax m c]).run P w = .ok v' w' ∧ w'.ownsRow base e size v' (n + m) (xs ++ news) ∧ w.grownBy w' v.ownBlock ∧ Fresh w v v' := by
  by_cases hm : m = 0
  · subst hm
    have hn : news = [] := List.length_eq_zero_iff.1 (by simpa using hl)
    subst hn
    refine ⟨v, w, run_append_none w base t ty e i size ht hi v n xs hown ax c, by simpa using hown, ⟨rfl, rfl, rfl, Nat.le_refl _, fun _ _ _ => rfl⟩, .inl rfl⟩
  · obtain ⟨a, rfl, hc⟩ := hnews (fun e => by
      rw [e] at hl
      have := Nat.mul_pos (Nat.pos_of_ne_zero hm) hsz
      simp only [List.length_nil] at hl; omega)
    exact run_append_fresh w base t ty e i z size bytes ht hi hz hsize hby hzs hsz v n xs hown a m c news hl hc h1 (by omega) h63 hbytes hbase

set_option maxRecDepth 100000 in
theorem wpList_appG {ops : Array Oper} {rest : List Oper} {o : Oper} {a : Act} {Q : Exit → Act → World → Prop} (B : Nat) (w3 : World) (hgd : o.guard = none) (s x : Operand)
    (ho : o.op = .call { callee := .builtin .append, args := #[s, x], argTypes := #[36, 36] }) (v : Value) (xs ys : List Int) (hs : a.eval s = v) (hown : OwnI w3 B v xs) (hB : B ≤ w3.heap.size)
    (ax : Option Addr) (n c : Nat) (hn : n = ys.length) (hx : a.eval x = .slice ax n c) (hR : RdI w3 ax ys) (hlen : xs.length + ys.length ≤ 2000000)
    (h : ∀ v' w', OwnI w' B v' (xs ++ ys) → w3.grownBy w' v.ownBlock → Fresh w3 v v' → wpList Tryz.prog ops Q rest (a.put o.dst v') w') : wpList Tryz.prog ops Q (o :: rest) a w3 := by
  obtain ⟨i0, hi, hz0, hz1, hz2⟩ := info_parts info_int
  subst hn
  obtain ⟨v', w', hr, h1, h2, h3⟩ := run_append_any (P := Tryz.prog) w3 B 36 o.type 3 i0 (.int .i64 0) 1 8 Tryz.underlying36 hi hz0 hz1 hz2 rfl (by decide) v xs.length _ hown ax ys.length c (ys.map (Value.int .i64)) (by simp)
    (fun hne => by
      obtain ⟨b, off, rfl, hc⟩ := hR (fun e => hne (by rw [e]; rfl))
      refine ⟨_, rfl, fun j u hj => ?_⟩
      rw [List.getElem?_map, Option.map_eq_some_iff] at hj
      obtain ⟨y, hy, rfl⟩ := hj
      have := hc j y hy
      by_cases hj0 : j = 0
      · subst hj0
        simpa [Addr.add] using this
      · simpa [Addr.add, hj0] using this)
    (fun u hu => by
      obtain ⟨y, _, rfl⟩ := List.mem_map.1 hu
      rfl) (by unfold maxLen; omega) (by omega) hB
  refine wpList_plain hgd fun K hK => ?_
  unfold Oper.wp execOp
  simp only [ho, resolve, invoke, builtin, Sem.run_bind, Sem.run_pure, Result.andThen_ok, List.map_toArray, List.map_cons, List.map_nil, hs, hx, hr]
  refine hK _ _ (h v' w' ?_ h2 h3)
  unfold OwnI
  rw [List.map_append, List.length_append]
  exact h1

set_option maxRecDepth 100000 in
theorem OwnI.rdI {w : World} {B : Nat} {a : Option Addr} {n c : Nat} {xs : List Int} (h : OwnI w B (.slice a n c) xs) : RdI w a xs := by
  obtain ⟨a', c', e, _, _, hR, _⟩ := h.val
  injection e with e1 e2 e3
  subst e1
  exact hR
set_option maxRecDepth 100000 in
/-- A part of a list that is read, from k on (the address stays where nothing is left behind it). -/
theorem RdI.drop {w : World} {b off n : Nat} {xs : List Int} (h : RdI w (some ⟨b, off, none⟩) xs) (k c : Nat) (hc : xs.length ≤ c) (hn : n = off + k) : RdI w (if c = k then some ⟨b, off, none⟩ else some ⟨b, n, none⟩) (xs.drop k) := fun hne => by
  have hk : k < xs.length := by
    rcases Nat.lt_or_ge k xs.length with h | h
    · exact h
    · exact absurd (List.drop_eq_nil_of_le h) hne
  obtain ⟨b', off', e, hc'⟩ := h (fun e => by rw [e] at hk; simp at hk)
  injection e with e
  injection e with e1 e2
  subst e1 e2
  rw [if_neg (by omega)]
  subst hn
  refine ⟨b, off + k, rfl, fun j x hx => ?_⟩
  rw [List.getElem?_drop] at hx
  rw [Nat.add_assoc]
  exact hc' (k + j) x hx
set_option maxRecDepth 100000 in
/-- A list of the call's own, cut short. -/
theorem OwnI.short {w : World} {B : Nat} {a : Option Addr} {n c : Nat} {xs : List Int} (h : OwnI w B (.slice a n c) xs) (k : Nat) (hk : k ≤ xs.length) : OwnI w B (.slice a k c) (xs.take k) := by
  obtain ⟨h1, h2⟩ := h
  have hl : (xs.take k).length = k := by rw [List.length_take]; omega
  refine ⟨by simp, ?_⟩
  rw [hl]
  rcases h2 with ⟨e, h0⟩ | ⟨g, cap, cur, e, hg, hh, hc, hm, hs, ht⟩
  · injection e with e1 e2 e3
    subst e1 e3
    have : k = 0 := by omega
    subst this
    exact .inl ⟨rfl, rfl⟩
  · injection e with e1 e2 e3
    subst e1 e3
    refine .inr ⟨g, c, cur, rfl, hg, hh, by omega, hm, hs, ?_⟩
    rw [Nat.mul_one] at ht ⊢
    rw [List.map_take, ← ht, List.take_take, Nat.min_eq_left hk]

/-- The cells of a list of n from which those from i on and below j are taken out. -/
def delF (n : Nat) (f : Nat → Value) (i j t : Nat) : Value := if t < i then f t else if t + (j - i) < n then f (t + (j - i)) else .int .i64 0

set_option maxRecDepth 100000 in
set_option maxHeartbeats 4000000 in
theorem del_impl (w : World) (g n c i j : Nat) (f : Nat → Value) (hB : BlkF w g n f) (hij : i < j) (hj : j ≤ n) (hc : n ≤ c) (h1 : ∀ t, t < n → (f t).oneCell' = true) :
    Calls Tryz.prog 112 #[.slice (some ⟨g, 0, none⟩) n c, .int .i64 i, .int .i64 j] w fun e w' => e = .returned (.slice (some ⟨g, 0, none⟩) (n - (j - i)) c) ∧ BlkF w' g n (delF n f i j) ∧ Only g w w' := by
  obtain ⟨i0, hi, hz0, hz1, hz2⟩ := info_parts info_int
  obtain ⟨news, hnews⟩ : ∃ news : List Value, news = (List.range (n - j)).map (fun t => f (j + t)) := ⟨_, rfl⟩
  have hlen : news.length = n - j := by rw [hnews]; simp
  have hget : ∀ t, t < n - j → news[t]? = some (f (j + t)) := fun t ht => by rw [hnews]; simp [ht]
  have hBd : BlkF w.drew g n f := hB.ext ((Ext.refl w).drew)
  obtain ⟨A, hA, hsrc⟩ : ∃ A : Addr, (if c = j then some (⟨g, 0, none⟩ : Addr) else some ⟨g, j, none⟩) = some A ∧ Hid (∀ (t : Nat) u, news[t]? = some u → w.drew.cell? (A.add t) = some u) := by
    by_cases h : c = j
    · refine ⟨⟨g, 0, none⟩, by simp [h], fun t u hu => ?_⟩
      have := lt_of_at hu
      omega
    · refine ⟨⟨g, j, none⟩, by simp [h], fun t u hu => ?_⟩
      have ht := lt_of_at hu
      rw [hlen] at ht
      rw [hget t ht] at hu
      injection hu with hu
      rw [Addr.add_lit, ← hu]
      exact hBd.cell (j + t) (by omega)
  have s1 : Hid (news.length = (n - j) * 1) := by show _ = _; rw [Nat.mul_one]; exact hlen
  have s2 : Hid (∀ u ∈ news, u.oneCell' = true) := by
    intro u hu
    rw [hnews, List.mem_map] at hu
    obtain ⟨t, ht, rfl⟩ := hu
    have := List.mem_range.1 ht
    exact h1 _ (by omega)
  have s3 : Hid (∀ t, t < news.length → (w.drew.cell? ⟨g, 0 + i * 1 + t, none⟩).isSome = true ∧ w.drew.frozen? ⟨g, 0 + i * 1 + t, none⟩ = false) := by
    intro t ht
    rw [hlen] at ht
    rw [Nat.mul_one, Nat.zero_add]
    exact ⟨by rw [hBd.cell (i + t) (by omega)]; rfl, hBd.fr _⟩
  obtain ⟨W1, hW1⟩ : ∃ W1 : World, W1 = w.drew.setCells g (0 + i * 1) news := ⟨_, rfl⟩
  have hB1 : BlkF W1 g n (fun t => if i ≤ t ∧ t < i + (n - j) then f (j + (t - i)) else f t) := by
    have h := BlkF.setCells news w.drew f (0 + i * 1) hBd (by rw [hlen]; omega)
    rw [← hW1] at h
    refine h.congr (fun t ht => ?_)
    rw [hlen]
    by_cases e : i ≤ t ∧ t < i + (n - j)
    · have e' : 0 + i * 1 ≤ t ∧ t < 0 + i * 1 + (n - j) := by omega
      rw [if_pos e, if_pos e', List.getD_eq_getElem?_getD, hget _ (by omega)]
      simp
    · have e' : ¬ (0 + i * 1 ≤ t ∧ t < 0 + i * 1 + (n - j)) := by omega
      rw [if_neg e, if_neg e']
  have hO1 : Only g w W1 := by
    have key : ∀ (cs : List Value) (w0 : World) (o : Nat), Only g w w0 → Only g w (w0.setCells g o cs) := by
      intro cs
      induction cs with
      | nil => intro w0 o h; exact h
      | cons x cs ih => intro w0 o h; exact ih _ _ (h.setCell o x)
    rw [hW1]
    exact key _ _ _ (Only.of_ext ((Ext.refl w).drew))
  have hcl : ∀ ty, (Builtin.clear_ #[36] ty #[.slice (some ⟨g, i + (n - j), none⟩) (n - (i + (n - j))) (c - (i + (n - j)))]).run Tryz.prog W1 = .ok (.tuple #[]) (W1.setCells g (i + (n - j)) (List.replicate (n - (i + (n - j))) (.int .i64 0))) :=
    fun ty => Lib.run_clear_slice W1 _ _ ty _ Tryz.underlying36 (fun w => by kernel_rfl) rfl rfl g (i + (n - j)) _ _ (by omega) (fun t ht => by rw [hB1.cell _ (by omega)]; rfl) (fun t ht => hB1.fr _)
  have HB := hide hB1
  have HO := hide hO1
  have hW : Hid (W1 = w.drew.setCells g (0 + i * 1) news) := hW1
  have hic : i ≤ c := by omega
  have hjc : j ≤ c := by omega
  have hin : i ≤ n := by omega
  clear hW1 hB1 hO1 hBd hB hget hnews hlen h1
  go_enter Tryz.func112, Tryz.ntmps112
  go_wp2_with fail
  go_region_law (refine step_append_room rfl (.tmp 22) (.tmp 25) 36 rfl 3 i0 1 Tryz.underlying36 hi hz1 g 0 i c (by simp [Act.eval, Act.put]) A (n - j) (c - j) news (by simp [Act.eval, Act.put]) s1.out hsrc.out s2.out (by omega) s3.out ?_; rw [← hW.out])
  go_wp2
  go_ret
  have hfin := BlkF.setCells (List.replicate (n - (i + (n - j))) (.int .i64 0)) W1 _ (i + (n - j)) HB.out (by rw [List.length_replicate]; omega)
  have key : ∀ (cs : List Value) (w0 : World) (o : Nat), Only g w w0 → Only g w (w0.setCells g o cs) := by
    intro cs
    induction cs with
    | nil => intro w0 o h; exact h
    | cons x cs ih => intro w0 o h; exact ih _ _ (h.setCell o x)
  refine ⟨by rw [show n - (j - i) = i + (n - j) by omega]; rfl, hfin.congr (fun t ht => ?_), key _ _ _ HO.out⟩
  unfold delF
  rw [List.length_replicate]
  by_cases e1 : i + (n - j) ≤ t ∧ t < i + (n - j) + (n - (i + (n - j)))
  · rw [if_pos e1, List.getD_eq_getElem?_getD, List.getElem?_replicate, if_pos (by omega), if_neg (by omega), if_neg (by omega)]; rfl
  · rw [if_neg e1]
    by_cases e2 : t < i
    · rw [if_neg (by omega), if_pos e2]
    · rw [if_pos (by omega), if_neg e2, if_pos (by omega), show j + (t - i) = t + (j - i) by omega]

set_option maxRecDepth 100000 in
theorem BlkF.le {w : World} {g n m : Nat} {f : Nat → Value} (h : BlkF w g n f) (hm : m ≤ n) : BlkF w g m f := ⟨h.lt, h.fr, fun o ho => h.cell o (by omega)⟩
set_option maxRecDepth 100000 in
/-- One is taken out. -/
theorem del1 (w : World) (g n c i : Nat) (f : Nat → Value) (hB : BlkF w g n f) (hi : i < n) (hc : n ≤ c) (h1 : ∀ t, t < n → (f t).oneCell' = true) :
    Calls Tryz.prog 112 #[.slice (some ⟨g, 0, none⟩) n c, .int .i64 (i : Int), .int .i64 ((i : Int) + 1)] w fun e w' => e = .returned (.slice (some ⟨g, 0, none⟩) (n - 1) c) ∧ BlkF w' g (n - 1) (fun t => if t < i then f t else f (t + 1)) ∧ Only g w w' := by
  have h := del_impl w g n c i (i + 1) f hB (by omega) (by omega) hc h1
  have e : ((i + 1 : Nat) : Int) = (i : Int) + 1 := by omega
  rw [e] at h
  refine h.mono ?_
  rintro e w' ⟨rfl, hB', hO⟩
  refine ⟨by rw [show n - (i + 1 - i) = n - 1 by omega], (hB'.le (by omega)).congr (fun t ht => ?_), hO⟩
  unfold delF
  by_cases e2 : t < i
  · rw [if_pos e2, if_pos e2]
  · rw [if_neg e2, if_neg e2, if_pos (by omega), show t + (i + 1 - i) = t + 1 by omega]

def iotaL (n : Nat) : List Int := rowL n (fun j => (j : Int))
set_option maxRecDepth 100000 in
theorem iotaL_up (n : Nat) : iotaL n = upL n (fun _ => true) := by
  unfold iotaL rowL upL
  rw [List.filter_eq_self.2 (fun _ _ => rfl)]
set_option maxRecDepth 100000 in
set_option maxHeartbeats 1000000 in
theorem indices_impl (w : World) (n : Nat) (n2 : n ≤ 5) :
    Calls Tryz.prog 106 #[.int .i64 n] w fun e w' => e = .returned (.slice (some ⟨w.heap.size, 0, none⟩) n n) ∧ BlkF w' w.heap.size n (fun o => .int .i64 (o : Int)) ∧ Ext w w' := by
  obtain ⟨i0, hi, hz0, hz1, hz2⟩ := info_parts info_int
  have hmk := fun W => run_make_rowN (P := Tryz.prog) 36 3 i0 _ Tryz.underlying36 hi hz0 .i64 .i64 n n (Nat.le_refl _) (by rw [hz2]; omega) (by omega) W
  rw [hz1, Nat.mul_one] at hmk
  go_enter Tryz.func106, Tryz.ntmps106
  go_wp2_with fail
  clear hmk
  have hB := BlkF.new w (madeCells #[.int .i64 0] n) 3
  rw [size_madeCells] at hB
  have hE := Ext.new w (.cells (madeCells #[.int .i64 0] n) 3)
  have hB := hB.congr (f' := fun o => .int .i64 (if o < 0 then (o : Int) else 0)) (fun o ho => by rw [if_neg (by omega)]; exact made_int n o ho)
  generalize w.alloc (.cells (madeCells #[.int .i64 0] n) 3) = W1 at hB hE ⊢
  go_loopw [4, 9] (fun _ i wr => ∃ j : Nat, j ≤ n ∧ i = .int .i64 j ∧ BlkF wr w.heap.size n (fun o => .int .i64 (if o < j then (o : Int) else 0)) ∧ Ext w wr) (fun _ i _ => n - (intOf i).toNat)
  case atStart => exact ⟨0, Nat.zero_le _, rfl, hB, hE⟩
  case round =>
    clear hB hE
    obtain ⟨i, hi, rfl, hB, hwr⟩ := hrel
    by_cases hlt : i < n
    · have d0 := hB.cell i hlt
      rw [if_neg (by omega)] at d0
      have z0 := hB.fr i
      have HB := hide hB
      clear hB
      go_wp2
      refine ⟨⟨i + 1, by omega, by go_num, (HB.out.set i hlt _).congr (fun o ho => ?_), Ext.setCell hwr (Nat.le_refl _) _⟩, by simp [intOf]; omega⟩
      by_cases e : o = i
      · subst e; rw [if_pos rfl, if_pos (by omega)]
      · rw [if_neg e]
        by_cases e2 : o < i
        · rw [if_pos e2, if_pos (by omega)]
        · rw [if_neg e2, if_neg (by omega)]
    · have hin : i = n := by omega
      go_wp2
      go_ret
      exact ⟨rfl, hB.congr (fun o ho => by rw [if_pos (by omega)]), hwr⟩

set_option maxRecDepth 100000 in
/-- v reads as the list, in a block that may be written. -/
theorem BlkF.rdL {w : World} {g n : Nat} {f : Nat → Value} {xs : List Int} (h : BlkF w g n f) (hn : xs.length ≤ n) (hf : ∀ (j : Nat) (x : Int), xs[j]? = some x → f j = .int .i64 x) : RdI w (some ⟨g, 0, none⟩) xs := fun _ => ⟨g, 0, rfl, fun j x hx => by rw [Nat.zero_add, h.cell j (by have := lt_of_at hx; omega), hf j x hx]⟩

set_option maxRecDepth 100000 in
theorem BlkF.grown {w w' : World} {g n : Nat} {f : Nat → Value} {row : Option Nat} (h : BlkF w g n f) (hg : w.grownBy w' row) (hr : ∀ k, row = some k → k ≠ g) : BlkF w' g n f := by
  have hgr : w'.heap[g]? = w.heap[g]? := hg.block g h.lt (fun e => hr g e.symm rfl)
  exact ⟨Nat.lt_of_lt_of_le h.lt hg.size, fun o => (World.frozen?_of_block (w := w) hgr).trans (h.fr o), fun o ho => (World.cell?_of_block (w := w) hgr).trans (h.cell o ho)⟩

def elimO (sz : Int) (vs : List Vt) (W : List Int → Int → Int) : List Int := if profOk sz vs then elimL sz.toNat W sz.toNat else []
set_option maxRecDepth 100000 in
theorem elimO_len (sz : Int) (vs : List Vt) (W : List Int → Int → Int) : (elimO sz vs W).length ≤ 5 := by
  unfold elimO
  cases h0 : profOk sz vs
  · simp
  · obtain ⟨n, rfl, n1, n2⟩ := prof_nat h0
    simp [elimL_len]; omega
set_option maxRecDepth 100000 in
theorem pickV_take {f : Int → Int} {xs : List Int} {k : Nat} {x : Int} (h : xs[k]? = some x) : pickV f (xs.take (k + 1)) = if pickV f (xs.take k) < 0 ∨ f x ≤ f (pickV f (xs.take k)) then x else pickV f (xs.take k) := by
  rw [take_at h, pickV_snoc]

set_option maxRecDepth 100000 in
set_option maxHeartbeats 8000000 in
theorem elim_impl (K : Nat) (cap : Array Value) (W : List Int → Int → Int) (w : World) (sz : Int) (a : Option Addr) (c : Nat) (vs : List Vt) (hR : RdV w a vs) (hK : Enters Tryz.prog K)
    (hf : ∀ (n : Nat) (left : List Int) (x : Int) (al : Option Addr) (cl : Nat) (w' : World), sz = n → n ≤ 5 → SmallV n vs → (∀ y ∈ left, 0 ≤ y ∧ y < n) → left.length ≤ n → x ∈ left → Ext w w' → RdI w' al left →
      Calls Tryz.prog K (#[.slice al left.length cl, .int .i64 x] ++ cap) w' fun e w'' => e = .returned (.int .i64 (W left x)) ∧ Ext w' w'') :
    Calls Tryz.prog 94 #[.agg #[.int .i64 sz, .slice a vs.length c], .func (.func K) #[] cap] w fun e w' => ∃ v, e = .returned v ∧ OwnI w' w.heap.size v (elimO sz vs W) ∧ Ext w w' := by
  unfold Enters at hK
  have q0 := new0 w (.int .i64 sz) [.slice a vs.length c] 29
  have q1 := new1 w (.int .i64 sz) (.slice a vs.length c) [] 29
  have HF := hide hf
  clear hf
  cases h0 : profOk sz vs
  · go_enter Tryz.func94, Tryz.ntmps94
    go_wp2_with (go_at_call 36; refine (prof_impl _ _ _ _ _ (hR.ext (by repeat (first | exact Ext.refl _ | assumption | refine Ext.alloc ?_ _ | refine Ext.drew ?_ | refine Ext.trans ?_ (by assumption))))).mono ?_; rintro e w1 ⟨rfl, hw1⟩; have q0 := Ext.keep (w' := w1) (by repeat (first | exact Ext.refl _ | assumption | refine Ext.alloc ?_ _ | refine Ext.drew ?_ | refine Ext.trans ?_ (by assumption))) q0; have q1 := Ext.keep (w' := w1) (by repeat (first | exact Ext.refl _ | assumption | refine Ext.alloc ?_ _ | refine Ext.drew ?_ | refine Ext.trans ?_ (by assumption))) q1)
    go_ret
    exact ⟨_, rfl, by simp [elimO, h0]; exact OwnI.nil _ _, (by repeat (first | exact Ext.refl _ | assumption | refine Ext.alloc ?_ _ | refine Ext.drew ?_ | refine Ext.trans ?_ (by assumption)))⟩
  obtain ⟨n, rfl, n1, n2⟩ := prof_nat h0
  have HS := hide (prof_small h0)
  go_enter Tryz.func94, Tryz.ntmps94
  go_wp2_with (go_at_call 36; refine (prof_impl _ _ _ _ _ (hR.ext (by repeat (first | exact Ext.refl _ | assumption | refine Ext.alloc ?_ _ | refine Ext.drew ?_ | refine Ext.trans ?_ (by assumption))))).mono ?_; rintro e w1 ⟨rfl, hw1⟩; have q0 := Ext.keep (w' := w1) (by repeat (first | exact Ext.refl _ | assumption | refine Ext.alloc ?_ _ | refine Ext.drew ?_ | refine Ext.trans ?_ (by assumption))) q0; have q1 := Ext.keep (w' := w1) (by repeat (first | exact Ext.refl _ | assumption | refine Ext.alloc ?_ _ | refine Ext.drew ?_ | refine Ext.trans ?_ (by assumption))) q1)
  refine (indices_impl _ n n2).mono ?_
  rintro e w2 ⟨rfl, hB, hw2⟩
  have hw : Ext w w2 := (by repeat (first | exact Ext.refl _ | assumption | refine Ext.alloc ?_ _ | refine Ext.drew ?_ | refine Ext.trans ?_ (by assumption)))
  obtain ⟨g, hg⟩ : ∃ g : Nat, g = w1.heap.size := ⟨_, rfl⟩
  have hgw : w.heap.size ≤ g := by rw [hg]; exact Ext.size (by repeat (first | exact Ext.refl _ | assumption | refine Ext.alloc ?_ _ | refine Ext.drew ?_ | refine Ext.trans ?_ (by assumption)))
  rw [← hg] at hB ⊢
  clear hg
  have hgl := hB.lt
  obtain ⟨wb, hwb⟩ : ∃ wb : World, wb = w2 := ⟨_, rfl⟩
  subst hwb
  go_wp2_with fail
  go_loopw [5, 6, 7, 8, 9, 19, 20, 21] (fun v l _ _ _ _ _ _ wr => ∃ (k : Nat) (f : Nat → Value), k ≤ n ∧ l = .slice (some ⟨g, 0, none⟩) (n - k) n ∧ OwnI wr wb.heap.size v (elimL n W k) ∧ BlkF wr g (n - k) f ∧ Hid (∀ (j : Nat) (x : Int), (leftL n (elimL n W k))[j]? = some x → f j = .int .i64 x) ∧ Ext w wr ∧ wb.heap.size ≤ wr.heap.size) (fun _ l _ _ _ _ _ _ _ => match l with | .slice _ m _ => m | _ => 0)
  case atStart =>
    refine ⟨0, _, Nat.zero_le _, rfl, OwnI.nil _ _, hB, fun j x hx => ?_, hw, Nat.le_refl _⟩
    rw [elimL, leftL_nil, ← iotaL_up] at hx
    obtain ⟨_, rfl⟩ := rowL_val hx
    rfl
  case round =>
    clear hB
    obtain ⟨k, f, hk, rfl, hown, hB, hfl, hwr, hsz⟩ := hrel
    have hll := leftL_elim (n := n) W k hk
    have hel := elimL_len n W k
    by_cases hlt : k < n
    · obtain ⟨left, hleft⟩ : ∃ left, left = leftL n (elimL n W k) := ⟨_, rfl⟩
      rw [← hleft] at hll hfl
      have hbds : ∀ y ∈ left, 0 ≤ y ∧ y < (n : Int) := fun y hy => by
        rw [hleft] at hy
        obtain ⟨i, hi, _, rfl⟩ := leftL_mem.1 hy
        omega
      have HLT := hide hleft
      obtain ⟨m, hm⟩ : ∃ m : Nat, m = n - k := ⟨_, rfl⟩
      rw [← hm] at hll hB ⊢
      have hm1 : 1 ≤ m := by omega
      have hm0 : decide (0 < m) = true := by simp; omega
      have hmn : m ≤ n := by omega
      have hmk : m + k ≤ n := by omega
      have hmk2 : n ≤ m + k := by omega
      have HLL := hide hll
      have HBD := hide hbds
      have hRl := hB.rdL (xs := left) (by omega) hfl.out
      have HC : Hid (∀ (x : Int) (w' : World), x ∈ left → Ext wr w' → Calls Tryz.prog K (#[.slice (some ⟨g, 0, none⟩) m n, .int .i64 x] ++ cap) w' fun e w'' => e = .returned (.int .i64 (W left x)) ∧ Ext w' w'') := fun x w' hx hw' => by
        have h := HF.out n left x (some ⟨g, 0, none⟩) n w' rfl n2 HS.out hbds (by omega) hx (hwr.trans hw') (hRl.ext hw')
        rw [hll] at h
        exact h
      clear hleft hm hll hbds
      go_wp2_with fail
      obtain ⟨wo, hwo⟩ : ∃ wo : World, wo = wr := ⟨_, rfl⟩
      subst hwo
      go_loopw [7, 8, 9, 21] (fun at_ _ _ i wr => ∃ (j p : Nat), j ≤ m ∧ p < m ∧ i = .int .i64 j ∧ at_ = .int .i64 p ∧ Hid ((j = 0 → p = 0) ∧ (1 ≤ j → left[p]? = some (pickV (W left) (left.take j)))) ∧ Ext wo wr) (fun _ _ _ i _ => m - (intOf i).toNat)
      case atStart => exact ⟨0, 0, Nat.zero_le _, hm1, rfl, rfl, ⟨fun _ => rfl, fun h => absurd h (by omega)⟩, Ext.refl _⟩
      case round =>
        obtain ⟨j, p, hj, hp, rfl, rfl, hjp, hwr'⟩ := hrel
        by_cases hjt : j < m
        · obtain ⟨x, hx⟩ := at_of_lt (xs := left) (k := j) (by rw [HLL.out]; exact hjt)
          obtain ⟨y, hy⟩ := at_of_lt (xs := left) (k := p) (by rw [HLL.out]; exact hp)
          have hxm := List.mem_of_getElem? hx
          have hym := List.mem_of_getElem? hy
          obtain ⟨b1, o1, hb1, d0⟩ := (hRl.ext hwr').at_ hx
          obtain ⟨b2, o2, hb2, d1⟩ := (hRl.ext hwr').at_ hy
          injection hb1 with hb1
          injection hb1 with hb1 hb1'
          subst hb1
          subst hb1'
          injection hb2 with hb2
          injection hb2 with hb2 hb2'
          subst hb2
          subst hb2'
          rw [Nat.zero_add] at d0 d1
          have hnext : ∀ t : Bool, (t = true ↔ W left x ≤ W left y) → left[if t = true then j else p]? = some (pickV (W left) (left.take (j + 1))) := fun t ht => by
            rw [pickV_take hx]
            by_cases h0 : j = 0
            · have hp0 := hjp.out.1 h0
              subst h0
              subst hp0
              rw [hx] at hy
              injection hy with hy
              subst hy
              rw [ht.2 (by omega), if_pos rfl, if_pos (.inl (by show pickV _ [] < 0; rw [pickV_nil]; decide))]
              exact hx
            · have hp1 := hjp.out.2 (by omega)
              rw [hy] at hp1
              injection hp1 with hp1
              have hy0 := (HBD.out y hym).1
              rw [← hp1]
              cases t
              · rw [if_neg (by decide), if_neg (fun h => by
                  rcases h with h | h
                  · omega
                  · have := ht.2 h; cases this)]
                exact hy
              · rw [if_pos rfl, if_pos (.inr (ht.1 rfl))]
                exact hx
          have HN := hide hnext
          clear hnext hx hy
          by_cases ht : W left x ≤ W left y
          · have hN := hide (show left[j]? = some (pickV (W left) (left.take (j + 1))) by have h := HN.out true (by simp [ht]); rwa [if_pos rfl] at h)
            clear HN
            go_wp2
            refine wp_region_X (by kernel_rfl) (by kernel_rfl) ?_
            repeat' (refine wpX_stepQ (fun K hK => ?_)
                     go_simp
                     try (rw [if_neg (by intro h; simp [undef] at h)])
                     try split
                     all_goals
                       first
                       | (refine hK _ ?_
                          clear hK K)
                       | (apply Exists.intro
                          refine ⟨fun wq hwq => ?_, hK _ ?_⟩
                          · have hcq := hwq.cellS
                            go_simp
                            first
                            | exact ⟨Ext.refl _, rfl⟩
                            | exact ⟨Ext.refl _, HC.out x _ hxm (by repeat (first | exact Ext.refl _ | assumption | refine Ext.alloc ?_ _ | refine Ext.drew ?_ | refine Ext.trans ?_ (by assumption)))⟩
                            | exact ⟨Ext.refl _, HC.out y _ hym (by repeat (first | exact Ext.refl _ | assumption | refine Ext.alloc ?_ _ | refine Ext.drew ?_ | refine Ext.trans ?_ (by assumption)))⟩
                          clear hK K))
            refine wpX_nil (fun wz hwz => ?_)
            go_wp2
            exact ⟨⟨j + 1, j, by omega, hjt, by go_num, rfl, ⟨fun h => absurd h (by omega), fun _ => hN.out⟩, (by repeat (first | exact Ext.refl _ | assumption | refine Ext.alloc ?_ _ | refine Ext.drew ?_ | refine Ext.trans ?_ (by assumption)))⟩, by simp [intOf]; omega⟩
          · have hN := hide (show left[p]? = some (pickV (W left) (left.take (j + 1))) by have h := HN.out false (by simp; omega); rwa [if_neg (by decide)] at h)
            clear HN
            go_wp2
            refine wp_region_X (by kernel_rfl) (by kernel_rfl) ?_
            repeat' (refine wpX_stepQ (fun K hK => ?_)
                     go_simp
                     try (rw [if_neg (by intro h; simp [undef] at h)])
                     try split
                     all_goals
                       first
                       | (refine hK _ ?_
                          clear hK K)
                       | (apply Exists.intro
                          refine ⟨fun wq hwq => ?_, hK _ ?_⟩
                          · have hcq := hwq.cellS
                            go_simp
                            first
                            | exact ⟨Ext.refl _, rfl⟩
                            | exact ⟨Ext.refl _, HC.out x _ hxm (by repeat (first | exact Ext.refl _ | assumption | refine Ext.alloc ?_ _ | refine Ext.drew ?_ | refine Ext.trans ?_ (by assumption)))⟩
                            | exact ⟨Ext.refl _, HC.out y _ hym (by repeat (first | exact Ext.refl _ | assumption | refine Ext.alloc ?_ _ | refine Ext.drew ?_ | refine Ext.trans ?_ (by assumption)))⟩
                          clear hK K))
            refine wpX_nil (fun wz hwz => ?_)
            go_wp2
            exact ⟨⟨j + 1, p, by omega, hp, by go_num, rfl, ⟨fun h => absurd h (by omega), fun _ => hN.out⟩, (by repeat (first | exact Ext.refl _ | assumption | refine Ext.alloc ?_ _ | refine Ext.drew ?_ | refine Ext.trans ?_ (by assumption)))⟩, by simp [intOf]; omega⟩
        · have hjm : j = m := by omega
          have hpick := hjp.out.2 (by omega)
          rw [hjm, List.take_of_length_le (by rw [HLL.out]; omega)] at hpick
          have hpf := hfl.out p _ hpick
          have d0 := (hB.ext hwr').cell p hp
          rw [hpf] at d0
          have HPK := hide hpick
          have hlow := hw.size
          have hwz := hwr'.size
          have hone : ∀ t, t < m → (f t).oneCell' = true := fun t ht => by
            obtain ⟨x, hx⟩ := at_of_lt (xs := left) (k := t) (by rw [HLL.out]; exact ht)
            rw [hfl.out t x hx]; rfl
          have HONE := hide hone
          have hBw := hB.ext hwr'
          clear hpf hpick hone hB
          go_wp2_with (at_builtin; refine wpList_appF wb.heap.size _ rfl _ _ rfl _ (elimL n W k) _ rfl (hown.ext (by repeat (first | exact Ext.refl _ | assumption | refine Ext.alloc ?_ _ | refine Ext.drew ?_ | refine Ext.trans ?_ (by assumption)))) (by omega) rfl (by omega) ?_; intro v' w3 hown3 hg3 hf3)
          have hrow : ∀ b, u5.ownBlock = some b → wb.heap.size ≤ b := fun b hb => ownsRow_block hown b hb
          have hB3 := hBw.grown hg3 (fun b hb => by have := hrow b hb; omega)
          have hE3 : Ext w w3 := Ext.grown (hwr.trans hwr') hg3 (fun b hb => by have := hrow b hb; omega)
          have hz3 := hg3.size
          clear hBw hrow hg3 hf3 d0
          have HC2 := hide (del1 w3 g m n p f hB3 hp hmn HONE.out)
          clear hB3 HONE
          go_wp2_with fail
          refine HC2.out.mono ?_
          rintro e w4 ⟨rfl, hB4, hO4⟩
          have hz4 := hO4.size
          go_wp2
          refine ⟨⟨k + 1, fun t => if t < p then f t else f (t + 1), by omega, ?_, ?_, ?_, fun j x hx => ?_, Only.ext hE3 hO4 hgw, by omega⟩, (show m - 1 < m by omega)⟩
          · rw [show n - (k + 1) = m - 1 by omega]
          · have h := hown3.only hgl hO4
            show OwnI _ _ _ (elimL n W k ++ [pickV (W (leftL n (elimL n W k))) (leftL n (elimL n W k))])
            rw [← HLT.out]
            exact h
          · rw [show n - (k + 1) = m - 1 by omega]
            exact hB4
          · have hpk := HPK.out
            rw [HLT.out] at hpk
            have he : leftL n (elimL n W (k + 1)) = left.eraseIdx p := by
              show leftL n (elimL n W k ++ [pickV (W (leftL n (elimL n W k))) (leftL n (elimL n W k))]) = _
              rw [HLT.out]
              exact (leftL_erase hpk).symm
            rw [he, List.getElem?_eraseIdx] at hx
            show (if j < p then f j else f (j + 1)) = _
            by_cases e : j < p
            · rw [if_pos e] at hx ⊢
              exact hfl.out j x hx
            · rw [if_neg e] at hx ⊢
              exact hfl.out (j + 1) x hx
    · have hkn : k = n := by omega
      go_wp2
      go_ret
      refine ⟨_, rfl, ?_, hwr⟩
      have he : elimO n vs W = elimL n W k := by simp [elimO, h0, hkn]
      rw [he]
      exact hown.base hw.size

def keyS (sc : Nat → Int) (x : Int) : Int := sc x.toNat
/-- Candidates by their scores, the greatest first, equal ones in ascending order. -/
def srk (sc : Nat → Int) (n : Nat) : List Int := sortD (keyS sc) (iotaL n)
set_option maxRecDepth 100000 in
theorem iota_succ (n : Nat) : iotaL (n + 1) = iotaL n ++ [(n : Int)] := rowL_succ n _
set_option maxRecDepth 100000 in
theorem srk_succ (sc : Nat → Int) (n : Nat) : srk sc (n + 1) = insD (keyS sc) (srk sc n) n := by unfold srk; rw [iota_succ, sortD_snoc]
set_option maxRecDepth 100000 in
theorem srk_len (sc : Nat → Int) (n : Nat) : (srk sc n).length = n := by unfold srk; rw [sortD_len]; exact rowL_len _ _
set_option maxRecDepth 100000 in
theorem srk_mem {sc : Nat → Int} {n : Nat} {x : Int} (h : x ∈ srk sc n) : ∃ i : Nat, i < n ∧ x = i := by
  unfold srk at h
  rw [sortD_mem] at h
  obtain ⟨j, hj⟩ := List.mem_iff_getElem?.1 h
  obtain ⟨h1, rfl⟩ := rowL_val hj
  exact ⟨j, h1, rfl⟩

set_option maxRecDepth 100000 in
set_option maxHeartbeats 4000000 in
theorem srk_spec (w : World) (sz : Int) (a aw : Option Addr) (c cw : Nat) (vs : List Vt) (f : Nat → Int) (n : Nat) (hz : sz = n) (hR : RdV w a vs) (hW : RdI w aw (rowL n f)) (hf : GoodW f) (h0 : profOk sz vs = true) :
    Calls Tryz.prog 200 #[.agg #[.int .i64 sz, .slice a vs.length c], .slice aw n cw] w fun e w' => ∃ v, e = .returned v ∧ OwnI w' w.heap.size v (srk (scoV f vs) n) ∧ Ext w w' := by
  subst hz
  obtain ⟨m, hm, n1, n2⟩ := prof_nat h0
  have hnm : n = m := by omega
  rw [← hnm] at n1 n2
  clear hm hnm m
  have HF := hide hf
  clear hf
  have q0 := new0 w (.int .i64 n) [.slice a vs.length c] 29
  have q1 := new1 w (.int .i64 n) (.slice a vs.length c) [] 29
  go_enter Tryz.func200, Tryz.ntmps200
  go_wp2_with (go_at_call 195; refine (l05Ok_spec _ _ a aw c cw vs f n rfl (hR.ext (by repeat (first | exact Ext.refl _ | assumption | refine Ext.alloc ?_ _ | refine Ext.drew ?_ | refine Ext.trans ?_ (by assumption)))) (hW.ext (by repeat (first | exact Ext.refl _ | assumption | refine Ext.alloc ?_ _ | refine Ext.drew ?_ | refine Ext.trans ?_ (by assumption)))) HF.out h0).mono ?_; rintro e w1 ⟨rfl, hw1⟩; have q0 := Ext.keep (w' := w1) (by repeat (first | exact Ext.refl _ | assumption | refine Ext.alloc ?_ _ | refine Ext.drew ?_ | refine Ext.trans ?_ (by assumption))) q0; have q1 := Ext.keep (w' := w1) (by repeat (first | exact Ext.refl _ | assumption | refine Ext.alloc ?_ _ | refine Ext.drew ?_ | refine Ext.trans ?_ (by assumption))) q1)
  refine (sco_spec _ _ a aw c cw vs f n rfl (hR.ext (by repeat (first | exact Ext.refl _ | assumption | refine Ext.alloc ?_ _ | refine Ext.drew ?_ | refine Ext.trans ?_ (by assumption)))) (hW.ext (by repeat (first | exact Ext.refl _ | assumption | refine Ext.alloc ?_ _ | refine Ext.drew ?_ | refine Ext.trans ?_ (by assumption)))) HF.out h0).mono ?_
  rintro e w2 ⟨v, rfl, hv, hw2⟩
  have hw : Ext w w2 := (by repeat (first | exact Ext.refl _ | assumption | refine Ext.alloc ?_ _ | refine Ext.drew ?_ | refine Ext.trans ?_ (by assumption)))
  obtain ⟨av, cv, rfl, hcs, hRs, hju⟩ := hv.fr
  clear hju
  rw [rowL_len] at hcs ⊢
  clear hv hw1 hw2 q0 q1
  obtain ⟨wb, hwb⟩ : ∃ wb : World, wb = w2 := ⟨_, rfl⟩
  subst hwb
  obtain ⟨sc, hsc⟩ : ∃ sc, sc = scoV f vs := ⟨_, rfl⟩
  rw [← hsc] at hRs
  have HSC := hide hsc
  clear hsc
  have hO := OwnI.made0 wb
  have hE := Ext.new wb (.cells #[] 3)
  have hsl : ∃ g c', (Value.slice (some ⟨wb.heap.size, 0, none⟩) 0 0) = .slice (some ⟨g, 0, none⟩) (srk sc 0).length c' := ⟨_, _, rfl⟩
  go_wp2_with fail
  generalize wb.alloc (.cells #[] 3) = W0 at hO hE ⊢
  go_loopw [6, 7, 8, 9, 20] (fun v _ _ _ i wr => ∃ j : Nat, j ≤ n ∧ i = .int .i64 j ∧ OwnI wr wb.heap.size v (srk sc j) ∧ Hid (∃ g c', v = .slice (some ⟨g, 0, none⟩) (srk sc j).length c') ∧ Ext wb wr) (fun _ _ _ _ i _ => n - (intOf i).toNat)
  case atStart => exact ⟨0, Nat.zero_le _, rfl, hO, hsl, hE⟩
  case round =>
    clear hO hE hsl
    obtain ⟨j, hj, rfl, hown, hsl, hwr⟩ := hrel
    by_cases hjt : j < n
    · obtain ⟨g, co, rfl⟩ := hsl.out
      have hRo := hown.rdI
      obtain ⟨_, _, e1, hco, hcm, hju⟩ := hown.val
      clear hju
      injection e1 with e1 e2 e3
      subst e3
      clear e1 e2 hsl hcm
      have HL := hide (srk_len sc j)
      have hS5 : (srk sc j).length ≤ 5 := by rw [srk_len]; omega
      have HM : Hid (∀ x ∈ srk sc j, ∃ i : Nat, i < j ∧ x = i) := fun x hx => srk_mem hx
      have HS := hide (srk_succ sc j)
      have HD : Hid (DescK (keyS sc) (srk sc j)) := sortD_desc _ _
      have HK : Hid (keyS sc (j : Int) = sc j) := hide (by unfold keyS; rw [Int.toNat_natCast])
      generalize srk sc j = S at hown hRo hco HL HM HS HD hS5 ⊢
      obtain ⟨b2, off2, rfl, c0⟩ := (hRs.ext hwr).at_ (rowL_at (f := sc) hjt)
      have hSl := HL.out
      have hRsr := hRs.ext hwr
      have HO := hide hown
      have HRO := hide hRo
      clear hSl hown hRo
      go_wp2_with fail
      obtain ⟨wo, hwo⟩ : ∃ wo : World, wo = wr := ⟨_, rfl⟩
      subst hwo
      go_loopw [8] (fun k wr => ∃ m : Nat, m ≤ S.length ∧ k = .int .i64 m ∧ Hid (∀ y ∈ S.take m, keyS sc (j : Int) ≤ keyS sc y) ∧ Ext wo wr) (fun k _ => S.length - (intOf k).toNat)
      case atStart => exact ⟨0, Nat.zero_le _, rfl, (fun y hy => by simp at hy), Ext.refl _⟩
      case round =>
        obtain ⟨m, hm, rfl, hle, hwr2⟩ := hrel
        have c0 := hwr2.keep c0
        have hco2 : m ≤ co := by omega
        have hend : (m = S.length ∨ ∃ y, S[m]? = some y ∧ keyS sc y < keyS sc (j : Int)) → insD (keyS sc) S (j : Int) = S.take m ++ (j : Int) :: S.drop m := fun h => insD_count hle.out h HD.out
        have HE := hide hend
        clear hend
        by_cases hmt : m < S.length
        · obtain ⟨y, hy⟩ := at_of_lt hmt
          obtain ⟨i, hi, rfl⟩ := HM.out y (List.mem_of_getElem? hy)
          obtain ⟨b3, off3, hb3, d0⟩ := (HRO.out.ext hwr2).at_ hy
          injection hb3 with hb3
          injection hb3 with hb3 hb4
          subst hb3
          subst hb4
          obtain ⟨b4, off4, hb4, d1⟩ := (hRsr.ext hwr2).at_ (rowL_at (f := sc) (show i < n by omega))
          injection hb4 with hb4
          injection hb4 with hb4 hb5
          subst hb4
          subst hb5
          have hin : i < n := by omega
          rw [Nat.zero_add] at d0
          have HY := hide hy
          have HKi : Hid (keyS sc (i : Int) = sc i) := hide (by unfold keyS; rw [Int.toNat_natCast])
          clear hy
          have y1 : wrap64 ((m : Int) + 1) = (m : Int) + 1 := IntWalk.wrap64_in _ (by omega)
          by_cases hge : sc j ≤ sc i
          · go_wp2
            refine wp_region_X (by kernel_rfl) (by kernel_rfl) ?_
            repeat' (refine wpX_stepQ (fun K hK => ?_)
                     go_simp
                     try (rw [if_neg (by intro h; simp [undef] at h)])
                     try split
                     all_goals
                       first
                       | (refine hK _ ?_
                          clear hK K)
                       | (apply Exists.intro
                          refine ⟨fun wq hwq => ?_, hK _ ?_⟩
                          · have hcq := hwq.cellS
                            go_simp
                            first
                            | exact ⟨Ext.refl _, rfl⟩
                          clear hK K))
            refine wpX_nil (fun wz hwz => ?_)
            go_wp2
            exact ⟨⟨m + 1, by omega, by go_num, (fun z hz => by
              rw [take_at HY.out] at hz
              rcases List.mem_append.1 hz with hz | hz
              · exact hle.out z hz
              · simp at hz
                rw [hz, HK.out, HKi.out]; exact hge), hwr2.trans hwz⟩, by simp [intOf]; omega⟩
          · have hlt : sc i < sc j := by omega
            have H2 := hide (HE.out (.inr ⟨_, HY.out, by rw [HK.out, HKi.out]; exact hlt⟩))
            go_wp2
            refine wp_region_X (by kernel_rfl) (by kernel_rfl) ?_
            repeat' (refine wpX_stepQ (fun K hK => ?_)
                     go_simp
                     try (rw [if_neg (by intro h; simp [undef] at h)])
                     try split
                     all_goals
                       first
                       | (refine hK _ ?_
                          clear hK K)
                       | (apply Exists.intro
                          refine ⟨fun wq hwq => ?_, hK _ ?_⟩
                          · have hcq := hwq.cellS
                            go_simp
                            first
                            | exact ⟨Ext.refl _, rfl⟩
                          clear hK K))
            refine wpX_nil (fun wz hwz => ?_)
            have hRz := HRO.out.ext (hwr2.trans hwz)
            have hwz2 := hwr.trans (hwr2.trans hwz)
            have hO0 := OwnI.made0 wz
            have hE0 := Ext.new wz (.cells #[] 3)
            have hT := hRz.take m
            have hRd1 : Hid (co = m → RdI wz (some ⟨g, 0, none⟩) (S.drop m)) := fun h => by
              have h2 := hRz.drop (n := 0 + m) m co (by omega) rfl
              rwa [if_pos h] at h2
            have hRd2 : Hid (¬ co = m → RdI wz (some ⟨g, m, none⟩) (S.drop m)) := fun h => by
              have h2 := hRz.drop (n := 0 + m) m co (by omega) rfl
              rwa [if_neg h, Nat.zero_add] at h2
            have hSl := HL.out
            have htl : m = (S.take m).length := by rw [List.length_take]; omega
            have hdl : S.length - m = (S.drop m).length := by rw [List.length_drop]
            have ht5 : (S.take m).length ≤ 5 := by rw [List.length_take]; omega
            have hd5 : (S.drop m).length ≤ 5 := by rw [List.length_drop]; omega
            have HTL := hide htl
            have HDL := hide hdl
            clear hSl htl hdl c0 hRz
            go_wp2_with (first
              | (at_builtin; refine wpList_appG wz.heap.size _ rfl (.tmp 43) (.tmp 46) rfl _ [] (S.take m) rfl (by exact hO0) hE0.size (some ⟨g, 0, none⟩) m co HTL.out rfl (hT.ext hE0) (by rw [List.length_nil]; omega) ?_; intro v1 w1 hO1 hg1 _; have hE1 : Ext wz w1 := Ext.grown hE0 hg1 (ownsRow_block hO0))
              | (at_builtin; refine wpList_appI wz _ rfl (.tmp 48) (.tmp 50) rfl _ (S.take m) _ rfl (by exact hO1) hE1 rfl (by omega) ?_; intro v2 w2 hO2 hE2)
              | (at_builtin; refine wpList_appG wz.heap.size _ rfl (.tmp 52) (.tmp 55) rfl _ (S.take m ++ [(j : Int)]) (S.drop m) rfl (by exact hO2) hE2.size _ _ _ HDL.out rfl ((hRd1.out (by omega)).ext hE2) (by rw [List.length_append, List.length_singleton]; omega) ?_; intro v3 w3 hO3 hg3 _)
              | (at_builtin; refine wpList_appG wz.heap.size _ rfl (.tmp 52) (.tmp 55) rfl _ (S.take m ++ [(j : Int)]) (S.drop m) rfl (by exact hO2) hE2.size _ _ _ HDL.out rfl ((hRd2.out (by omega)).ext hE2) (by rw [List.length_append, List.length_singleton]; omega) ?_; intro v3 w3 hO3 hg3 _))
            all_goals
              have hE3 : Ext wb w3 := Ext.grown (hwz2.trans hE2) hg3 (fun q hq => Nat.le_trans hwz2.size (ownsRow_block hO2 q hq))
              have hO3 := hO3.base hwz2.size
              rw [List.append_assoc, List.singleton_append, ← H2.out, ← HS.out] at hO3
              refine ⟨⟨j + 1, by omega, by go_num, hO3, ?_, hE3⟩, by simp [intOf]; omega⟩
              obtain ⟨a9, c9, e9, _, _, _, ho⟩ := hO3.val
              obtain ⟨g9, hg9, _⟩ := ho (fun e => by have := srk_len sc (j + 1); rw [e] at this; simp at this)
              exact ⟨g9, c9, by rw [e9, hg9]⟩
        · have hml : m = S.length := by omega
          have H2 := hide (HE.out (.inl hml))
          subst hml
          go_wp2
          refine wp_region_X (by kernel_rfl) (by kernel_rfl) ?_
          repeat' (refine wpX_stepQ (fun K hK => ?_)
                   go_simp
                   try (rw [if_neg (by intro h; simp [undef] at h)])
                   try split
                   all_goals
                     first
                     | (refine hK _ ?_
                        clear hK K)
                     | (apply Exists.intro
                        refine ⟨fun wq hwq => ?_, hK _ ?_⟩
                        · have hcq := hwq.cellS
                          go_simp
                          first
                          | exact ⟨Ext.refl _, rfl⟩
                        clear hK K))
          refine wpX_nil (fun wz hwz => ?_)
          have hRz := HRO.out.ext (hwr2.trans hwz)
          have hwz2 := hwr.trans (hwr2.trans hwz)
          have hO0 := OwnI.made0 wz
          have hE0 := Ext.new wz (.cells #[] 3)
          have hT := hRz.take S.length
          have hRd1 : Hid (co = S.length → RdI wz (some ⟨g, 0, none⟩) (S.drop S.length)) := fun h => by
            have h2 := hRz.drop (n := 0 + S.length) S.length co (by omega) rfl
            rwa [if_pos h] at h2
          have hRd2 : Hid (¬ co = S.length → RdI wz (some ⟨g, S.length, none⟩) (S.drop S.length)) := fun h => by
            have h2 := hRz.drop (n := 0 + S.length) S.length co (by omega) rfl
            rwa [if_neg h, Nat.zero_add] at h2
          have hSl := HL.out
          have htl : S.length = (S.take S.length).length := by rw [List.length_take]; omega
          have hdl : S.length - S.length = (S.drop S.length).length := by rw [List.length_drop]
          have ht5 : (S.take S.length).length ≤ 5 := by rw [List.length_take]; omega
          have hd5 : (S.drop S.length).length ≤ 5 := by rw [List.length_drop]; omega
          have HTL := hide htl
          have HDL := hide hdl
          clear hSl htl hdl c0 hRz
          have HR1 : Hid (co = S.length → RdI wz (some ⟨g, 0, none⟩) (S.drop S.length)) := hRd1
          clear hRd1
          by_cases hck : co = S.length
          all_goals
            try subst hck
            go_wp2_with (first
              | (at_builtin; refine wpList_appG wz.heap.size _ rfl (.tmp 43) (.tmp 46) rfl _ [] (S.take S.length) rfl (by exact hO0) hE0.size (some ⟨g, 0, none⟩) S.length _ HTL.out rfl (hT.ext hE0) (by rw [List.length_nil]; omega) ?_; intro v1 w1 hO1 hg1 _; have hE1 : Ext wz w1 := Ext.grown hE0 hg1 (ownsRow_block hO0))
              | (at_builtin; refine wpList_appI wz _ rfl (.tmp 48) (.tmp 50) rfl _ (S.take S.length) _ rfl (by exact hO1) hE1 rfl (by omega) ?_; intro v2 w2 hO2 hE2)
              | (at_builtin; refine wpList_appG wz.heap.size _ rfl (.tmp 52) (.tmp 55) rfl _ (S.take S.length ++ [(j : Int)]) (S.drop S.length) rfl (by exact hO2) hE2.size _ _ _ (by rw [List.length_drop]; omega) rfl ((HR1.out rfl).ext hE2) (by rw [List.length_append, List.length_singleton]; omega) ?_; intro v3 w3 hO3 hg3 _)
              | (at_builtin; refine wpList_appG wz.heap.size _ rfl (.tmp 52) (.tmp 55) rfl _ (S.take S.length ++ [(j : Int)]) (S.drop S.length) rfl (by exact hO2) hE2.size _ _ _ (by rw [List.length_drop]; omega) rfl ((hRd2.out (by omega)).ext hE2) (by rw [List.length_append, List.length_singleton]; omega) ?_; intro v3 w3 hO3 hg3 _))
            all_goals
              have hE3 : Ext wb w3 := Ext.grown (hwz2.trans hE2) hg3 (fun q hq => Nat.le_trans hwz2.size (ownsRow_block hO2 q hq))
              have hO3 := hO3.base hwz2.size
              rw [List.append_assoc, List.singleton_append, ← H2.out, ← HS.out] at hO3
              refine ⟨⟨j + 1, by omega, by go_num, hO3, ?_, hE3⟩, by simp [intOf]; omega⟩
              obtain ⟨a9, c9, e9, _, _, _, ho⟩ := hO3.val
              obtain ⟨g9, hg9, _⟩ := ho (fun e => by have := srk_len sc (j + 1); rw [e] at this; simp at this)
              exact ⟨g9, c9, by rw [e9, hg9]⟩
    · have hjn : j = n := by omega
      go_wp2
      go_ret
      rw [hjn] at hown
      rw [← HSC.out]
      exact ⟨_, rfl, hown.base hw.size, hw.trans hwr⟩

end Go.Proofs.YtilcdnkkabmbfaaGreat
