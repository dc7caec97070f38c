/- Votes of an answer: overwritten by marks, and the marks found again. Votes of an answer that may be marked, and what is found when they have been. DropCandidate of the program, at every input. Profiles copied whole. -/
import Derived.Test.YtafdedgckbhhjaaCk4
import Derived.Test.YtafdedgckbhhjaaCk10
import Derived.Test.YtafdedgckbhhjaaCk17
import Derived.Test.YtafdedgckbhhjaaCk3
namespace Go.Proofs.Ytafdedgckbhhjaa
open Go.RowKit

/-- The mark at which vote j begins. -/
def mkAt (xss : List (List Int)) (k0 : Int) (j : Nat) : Int := k0 + (totL xss j : Nat) + j
/-- While votes are overwritten by marks: those below k hold them. -/
structure MkVt (w : World) (lo hi g : Nat) (us : Nat → Value) (xss : List (List Int)) (k0 : Int) (k : Nat) : Prop where
  b1 : lo ≤ g
  b2 : g < hi
  outer : ∃ F : Nat → Value, BlkF w g (xss.length * 2) F ∧ (∀ j, j < xss.length → F (j * 2) = us j) ∧ ∀ j xs, xss[j]? = some xs → j < k → F (j * 2 + 1) = .int .i64 (mkAt xss k0 j + xs.length)
  row : ∀ j xs, xss[j]? = some xs → k ≤ j → OwnI w lo (us j) xs ∧ ∀ b, (us j).ownBlock = some b → b < hi
  far : ∀ o, o < xss.length → (us o).ownBlock ≠ some g
  dis : ∀ o o' k, o < xss.length → o' < xss.length → o ≠ o' → (us o).ownBlock = some k → (us o').ownBlock ≠ some k
  done : ∀ j xs, xss[j]? = some xs → j < k → ∃ a c, us j = .slice a xs.length c ∧ RdI w a (markL (mkAt xss k0 j) xs.length) ∧ (a = none ∨ ∃ b, a = some ⟨b, 0, none⟩)
set_option maxRecDepth 100000 in
/-- The next count is marked, its ranking has been. -/
theorem MkVt.set {w : World} {lo hi g : Nat} {us : Nat → Value} {xss : List (List Int)} {k0 : Int} {k : Nat} {xs : List Int} (hx : xss[k]? = some xs) (b1 : lo ≤ g) (b2 : g < hi) {F : Nat → Value} (hB : BlkF w g (xss.length * 2) F)
    (hF : ∀ j, j < xss.length → F (j * 2) = us j) (hF2 : ∀ j xs, xss[j]? = some xs → j < k → F (j * 2 + 1) = .int .i64 (mkAt xss k0 j + xs.length))
    (row : ∀ j xs, xss[j]? = some xs → k + 1 ≤ j → OwnI w lo (us j) xs ∧ ∀ b, (us j).ownBlock = some b → b < hi) (far : ∀ o, o < xss.length → (us o).ownBlock ≠ some g)
    (dis : ∀ o o' k, o < xss.length → o' < xss.length → o ≠ o' → (us o).ownBlock = some k → (us o').ownBlock ≠ some k)
    (done : ∀ j xs, xss[j]? = some xs → j < k + 1 → ∃ a c, us j = .slice a xs.length c ∧ RdI w a (markL (mkAt xss k0 j) xs.length) ∧ (a = none ∨ ∃ b, a = some ⟨b, 0, none⟩)) :
    MkVt (w.setCell ⟨g, k * 2 + 1, none⟩ (.int .i64 (mkAt xss k0 k + xs.length))) lo hi g us xss k0 (k + 1) := by
  have hk := lt_of_at hx
  refine ⟨b1, b2, ⟨_, hB.set (k * 2 + 1) (by omega) _, fun j hj => ?_, fun j ys hy hj => ?_⟩, fun j ys hy hj => ?_, far, dis, fun j ys hy hj => ?_⟩
  · rw [if_neg (by omega)]; exact hF j hj
  · by_cases e : j = k
    · subst e
      rw [hx] at hy
      injection hy with hy
      subst hy
      rw [if_pos rfl]
    · rw [if_neg (by omega)]; exact hF2 j ys hy (by omega)
  · obtain ⟨h1, h2⟩ := row j ys hy hj
    exact ⟨h1.keepRow (setCell_row w g _ _) (.inr (far j (lt_of_at hy))), h2⟩
  · obtain ⟨a, c, e, hR, ha⟩ := done j ys hy hj
    refine ⟨a, c, e, ((Only.refl g w).setCell _ _).rdN hR ?_, ha⟩
    rcases ha with rfl | ⟨b, rfl⟩
    · exact .inl rfl
    · exact .inr ⟨b, rfl, fun e2 => far j (lt_of_at hy) (by rw [e, e2]; rfl)⟩
set_option maxRecDepth 100000 in
theorem MkVt.step {w : World} {lo hi g : Nat} {us : Nat → Value} {xss : List (List Int)} {k0 : Int} {k : Nat} (h : MkVt w lo hi g us xss k0 k) {xs : List Int} (hx : xss[k]? = some xs) :
    ∃ a c v, us k = .slice a xs.length c ∧ w.cell? ⟨g, k * 2, none⟩ = some (.slice a xs.length c) ∧ w.cell? ⟨g, k * 2 + 1, none⟩ = some v ∧ w.frozen? ⟨g, k * 2 + 1, none⟩ = false ∧
      ((xs = [] ∧ MkVt (w.setCell ⟨g, k * 2 + 1, none⟩ (.int .i64 (mkAt xss k0 k + xs.length))) lo hi g us xss k0 (k + 1)) ∨ ∃ b f, a = some ⟨b, 0, none⟩ ∧ lo ≤ b ∧ b < hi ∧ BlkF w b xs.length f ∧
      ∀ w', Only b w w' → BlkF w' b xs.length (fun j => .int .i64 (mkAt xss k0 k + j)) → w'.cell? ⟨g, k * 2 + 1, none⟩ = some v ∧ w'.frozen? ⟨g, k * 2 + 1, none⟩ = false ∧ MkVt (w'.setCell ⟨g, k * 2 + 1, none⟩ (.int .i64 (mkAt xss k0 k + xs.length))) lo hi g us xss k0 (k + 1)) := by
  have hk := lt_of_at hx
  obtain ⟨F, hB, hF, hF2⟩ := h.outer
  obtain ⟨hO, hb⟩ := h.row k xs hx (Nat.le_refl _)
  have hO' := hO
  obtain ⟨a, c, hv, hc, _, hR, ho⟩ := hO.val
  refine ⟨a, c, _, hv, by rw [hB.cell (k * 2) (by omega), hF k hk, hv], hB.cell (k * 2 + 1) (by omega), hB.fr _, ?_⟩
  have hcase : a = none ∨ ∃ b, a = some ⟨b, 0, none⟩ := by
    unfold OwnI World.ownsRow at hO'
    rcases hO'.2 with ⟨e, _⟩ | ⟨b, cap, cur, e, _⟩
    · rw [hv] at e; injection e with e1; exact .inl e1
    · rw [hv] at e; injection e with e1; exact .inr ⟨b, e1⟩
  by_cases hne : xs = []
  · refine .inl ⟨hne, MkVt.set hx h.b1 h.b2 hB hF hF2 (fun j ys hy hj => h.row j ys hy (by omega)) h.far h.dis fun j ys hy hj => ?_⟩
    by_cases e : j = k
    · subst e
      rw [hx] at hy
      injection hy with hy
      subst hy
      subst hne
      exact ⟨a, c, hv, fun hne2 => absurd rfl hne2, hcase⟩
    · exact h.done j ys hy (by omega)
  · obtain ⟨b, ha, hBb, hblk⟩ := ho hne
    have hbk : (us k).ownBlock = some b := by rw [hv, ha]; rfl
    refine .inr ⟨b, _, ha, hBb, hb b hbk, hblk, fun w' hw hb' => ?_⟩
    have hbg : b ≠ g := fun e => h.far k hk (by rw [hbk, e])
    have hB' := hw.blk hB (Ne.symm hbg)
    refine ⟨hB'.cell _ (by omega), hB'.fr _, MkVt.set hx h.b1 h.b2 hB' hF hF2 (fun j ys hy hj => ?_) h.far h.dis fun j ys hy hj => ?_⟩
    · obtain ⟨h1, h2⟩ := h.row j ys hy (by omega)
      exact ⟨h1.keepRow hw (.inr (fun e => h.dis k j b hk (lt_of_at hy) (by omega) hbk e)), h2⟩
    · by_cases e : j = k
      · subst e
        rw [hx] at hy
        injection hy with hy
        subst hy
        exact ⟨a, c, hv, by rw [ha]; exact hb'.marks, hcase⟩
      · obtain ⟨a1, c1, e1, hR1, ha1⟩ := h.done j ys hy (by omega)
        refine ⟨a1, c1, e1, hw.rdN hR1 ?_, ha1⟩
        rcases ha1 with rfl | ⟨b1, rfl⟩
        · exact .inl rfl
        · refine .inr ⟨b1, rfl, fun e2 => h.dis k j b hk (lt_of_at hy) (by omega) hbk ?_⟩
          rw [e1, e2]; rfl
set_option maxRecDepth 100000 in
theorem mkAt_succ {xss : List (List Int)} {k0 : Int} {k : Nat} {xs : List Int} (hx : xss[k]? = some xs) : mkAt xss k0 (k + 1) = mkAt xss k0 k + xs.length + 1 := by
  unfold mkAt
  rw [totL_at hx]; omega

set_option maxRecDepth 100000 in
set_option maxHeartbeats 2000000 in
theorem markVt1 (w : World) (lo hi g n c : Nat) (us : Nat → Value) (xss : List (List Int)) (k0 : Int) (h : MkVt w lo hi g us xss k0 0) (hn : Hid (xss.length = n)) (hl : n ≤ 1000) (hm : ∀ x ∈ xss, x.length ≤ 100) (h0 : 0 ≤ k0) (h1 : k0 ≤ 1000000) :
    Calls Try.prog 21 #[.slice (some ⟨g, 0, none⟩) n c, .int .i64 k0] w fun e w' => e = .returned (.int .i64 (mkAt xss k0 n)) ∧ Rng lo hi w w' ∧ MkVt w' lo hi g us xss k0 n := by
  have HM := hide hm
  have HL := hide (totL_le hm)
  have hgl : lo ≤ g ∧ g < hi := ⟨h.b1, h.b2⟩
  clear hm
  go_enter Try.func21, Try.ntmps21
  go_wp2_with fail
  have H := hide h
  clear h
  go_loopw [1, 5] (fun m i wr => ∃ k : Nat, k ≤ n ∧ i = .int .i64 k ∧ m = .int .i64 (mkAt xss k0 k) ∧ Hid (MkVt wr lo hi g us xss k0 k) ∧ Rng lo hi w wr) (fun _ i _ => n - (intOf i).toNat)
  case atStart => exact ⟨0, Nat.zero_le _, rfl, by unfold mkAt; rw [totL_zero]; simp, H, Rng.of_ext (Ext.refl _)⟩
  case round =>
    obtain ⟨k, hk, rfl, rfl, hM, hwr⟩ := hrel
    have ht := HL.out k (by rw [hn.out]; exact hk)
    have hK : 0 ≤ mkAt xss k0 k ∧ mkAt xss k0 k ≤ 2000000 := by unfold mkAt; omega
    clear ht
    by_cases hlt : k < n
    · obtain ⟨x, hx⟩ := at_of_lt (xs := xss) (k := k) (by rw [hn.out]; exact hlt)
      have hxl := HM.out x (List.mem_of_getElem? hx)
      obtain ⟨a, c', v, hv, c0, c1, z1, hs⟩ := hM.out.step hx
      have E2 := hide (mkAt_succ (k0 := k0) hx)
      clear hx hv
      obtain ⟨K, hKK⟩ : ∃ K : Int, K = mkAt xss k0 k := ⟨_, rfl⟩
      rw [← hKK] at hK E2 hs ⊢
      clear hKK
      rcases hs with ⟨hx0, hM2⟩ | ⟨b, f, rfl, hb1, hb2, hB, hM2⟩
      · subst hx0
        have HM2 := hide hM2
        have E3 : Hid (mkAt xss k0 (k + 1) = K + 1) := hide (by rw [E2.out]; simp)
        clear hM2
        go_wp2_with fail
        refine (markIS0 _ _ _ _).mono ?_
        rintro e w1 ⟨rfl, rfl⟩
        go_wp2
        refine ⟨⟨k + 1, by omega, by go_num, by rw [E3.out], ?_, hwr.trans (Rng.of_only ((Only.refl g _).setCell _ _) hgl.1 hgl.2)⟩, by simp [intOf]; omega⟩
        have h := HM2.out
        simp only [List.length_nil, Int.natCast_zero, Int.add_zero] at h
        exact hide h
      · have HM2 := hide hM2
        clear hM2
        go_wp2_with fail
        refine (markIS _ b x.length _ f _ hB (by omega) (by omega) (by omega)).mono ?_
        rintro e w1 ⟨rfl, hO, hB'⟩
        obtain ⟨c1, z1, hM3⟩ := HM2.out w1 hO hB'
        have HM3 := hide hM3
        clear hB' hB hM3 c0
        go_wp2
        exact ⟨⟨k + 1, by omega, by go_num, by rw [E2.out], HM3, (hwr.trans (Rng.of_only hO hb1 hb2)).trans (Rng.of_only ((Only.refl g _).setCell _ _) hgl.1 hgl.2)⟩, by simp [intOf]; omega⟩
    · have hkn : k = n := by omega
      go_wp2
      go_ret
      refine ⟨?_, hwr, ?_⟩
      · exact ret_int (by rw [hkn])
      · rw [← hkn]; exact hM.out

/-- Block g holds votes whose rankings are the call's own. -/
structure MatV (w : World) (B g : Nat) (us : Nat → Value) (vs : List Vt) : Prop where
  base : B ≤ g
  outer : ∃ F : Nat → Value, BlkF w g (vs.length * 2) F ∧ ∀ j x, vs[j]? = some x → F (j * 2) = us j ∧ F (j * 2 + 1) = .int .i64 x.2
  row : ∀ j x, vs[j]? = some x → OwnI w B (us j) x.1
  far : ∀ o, o < vs.length → (us o).ownBlock ≠ some g
  dis : ∀ o o' k, o < vs.length → o' < vs.length → o ≠ o' → (us o).ownBlock = some k → (us o').ownBlock ≠ some k
set_option maxRecDepth 100000 in
theorem MatV.ext {w w' : World} {B g : Nat} {us : Nat → Value} {vs : List Vt} (h : MatV w B g us vs) (hw : Ext w w') : MatV w' B g us vs := by
  obtain ⟨F, hB, hF⟩ := h.outer
  exact ⟨h.base, ⟨F, hB.ext hw, hF⟩, fun j x hx => (h.row j x hx).ext hw, h.far, h.dis⟩
set_option maxRecDepth 100000 in
theorem MatV.rng {w w' : World} {B g lo hi : Nat} {us : Nat → Value} {vs : List Vt} (h : MatV w B g us vs) (hg : hi ≤ B) (hw : Rng lo hi w w') : MatV w' B g us vs := by
  obtain ⟨F, hB, hF⟩ := h.outer
  have := h.base
  exact ⟨h.base, ⟨F, ⟨Nat.lt_of_lt_of_le hB.lt hw.size, fun o => (World.frozen?_of_block (w := w) (hw.block g hB.lt (by omega))).trans (hB.fr o), fun o ho => hw.keep (.inr (show hi ≤ g by omega)) (hB.cell o ho)⟩, hF⟩, fun j x hx => (h.row j x hx).rng hg hw, h.far, h.dis⟩
set_option maxRecDepth 100000 in
theorem MatV.low {w : World} {B B' g : Nat} {us : Nat → Value} {vs : List Vt} (h : MatV w B g us vs) (hb : B' ≤ B) : MatV w B' g us vs :=
  ⟨Nat.le_trans hb h.base, h.outer, fun j x hx => (h.row j x hx).base hb, h.far, h.dis⟩
set_option maxRecDepth 100000 in
theorem MatV.rd {w : World} {B g : Nat} {us : Nat → Value} {vs : List Vt} (h : MatV w B g us vs) : RdV w (some ⟨g, 0, none⟩) vs := fun _ => by
  obtain ⟨F, hB, hF⟩ := h.outer
  refine ⟨g, 0, rfl, fun j x hx => ?_⟩
  have hj := lt_of_at hx
  obtain ⟨a, c, hv, hc, _, hR, _⟩ := (h.row j x hx).val
  obtain ⟨f0, f1⟩ := hF j x hx
  refine ⟨a, c, ?_, ?_, hc, hR⟩
  · rw [Nat.zero_add, hB.cell (j * 2) (by omega), f0, hv]
  · rw [Nat.zero_add, hB.cell (j * 2 + 1) (by omega), f1]
set_option maxRecDepth 100000 in
theorem MatV.mk0 {w : World} {B H g : Nat} {us : Nat → Value} {vs : List Vt} (h : MatV w B g us vs) (hg : g < H) (hb : ∀ j, j < vs.length → ∀ b, (us j).ownBlock = some b → b < H) (k0 : Int) : MkVt w B H g us (vs.map Prod.fst) k0 0 := by
  obtain ⟨F, hB, hF⟩ := h.outer
  have hat : ∀ j xs, (vs.map Prod.fst)[j]? = some xs → ∃ x : Vt, vs[j]? = some x ∧ x.1 = xs := fun j xs hx => by
    rw [List.getElem?_map, Option.map_eq_some_iff] at hx
    exact hx
  refine ⟨h.base, hg, ⟨F, by rw [List.length_map]; exact hB, fun j hj => ?_, fun j xs _ hj => absurd hj (by omega)⟩, fun j xs hx _ => ?_, fun o ho => h.far o (by simpa using ho), fun o o' k ho ho' => h.dis o o' k (by simpa using ho) (by simpa using ho'), fun j xs _ hj => absurd hj (by omega)⟩
  · obtain ⟨x, hx⟩ := at_of_lt (xs := vs) (k := j) (by simpa using hj)
    exact (hF j x hx).1
  · obtain ⟨x, hx2, rfl⟩ := hat j xs hx
    exact ⟨h.row j x hx2, hb j (lt_of_at hx2)⟩
/-- v is the list of votes, all of it the call's own, in blocks from B to H. -/
def WrVt (w : World) (B H : Nat) (v : Value) (vs : List Vt) : Prop := ∃ a c, v = .slice a vs.length c ∧ RdV w a vs ∧ (vs ≠ [] → ∃ g us, a = some ⟨g, 0, none⟩ ∧ MatV w B g us vs ∧ g < H ∧ ∀ j, j < vs.length → ∀ b, (us j).ownBlock = some b → b < H)
set_option maxRecDepth 100000 in
theorem WrVt.nil (w : World) (B H : Nat) (a : Option Addr) (c : Nat) : WrVt w B H (.slice a 0 c) [] := ⟨a, c, rfl, fun h => absurd rfl h, fun h => absurd rfl h⟩
set_option maxRecDepth 100000 in
theorem WrVt.ext {w w' : World} {B H : Nat} {v : Value} {vs : List Vt} (h : WrVt w B H v vs) (hw : Ext w w') : WrVt w' B H v vs := by
  obtain ⟨a, c, hv, hR, ho⟩ := h
  refine ⟨a, c, hv, hR.ext hw, fun hne => ?_⟩
  obtain ⟨g, us, ha, hM, hb⟩ := ho hne
  exact ⟨g, us, ha, hM.ext hw, hb⟩
set_option maxRecDepth 100000 in
theorem WrVt.base {w : World} {B B' H : Nat} {v : Value} {vs : List Vt} (h : WrVt w B H v vs) (hb : B' ≤ B) : WrVt w B' H v vs := by
  obtain ⟨a, c, hv, hR, ho⟩ := h
  refine ⟨a, c, hv, hR, fun hne => ?_⟩
  obtain ⟨g, us, ha, hM, hb2⟩ := ho hne
  exact ⟨g, us, ha, hM.low hb, hb2⟩
set_option maxRecDepth 100000 in
theorem WrVt.rng {w w' : World} {B H lo hi : Nat} {v : Value} {vs : List Vt} (h : WrVt w B H v vs) (hg : hi ≤ B) (hw : Rng lo hi w w') : WrVt w' B H v vs := by
  obtain ⟨a, c, hv, hR, ho⟩ := h
  by_cases hne : vs = []
  · subst hne; exact ⟨a, c, hv, fun h => absurd rfl h, fun h => absurd rfl h⟩
  · obtain ⟨g, us, rfl, hM, hb⟩ := ho hne
    have h2 := hM.rng hg hw
    exact ⟨_, c, hv, h2.rd, fun _ => ⟨g, us, rfl, h2, hb⟩⟩
set_option maxRecDepth 100000 in
/-- Votes appended one by one may be marked. -/
theorem LstV.wr {w : World} {B : Nat} {v : Value} {es : List (RowE × Int)} (h : LstV w B v es) : WrVt w B w.heap.size v (vtsOf es) := by
  obtain ⟨h1, h2⟩ := h
  rcases h1.val with ⟨rfl, rfl⟩ | ⟨g, c, rfl, hc, hg, hB⟩
  · exact WrVt.nil _ _ _ _ _
  · have hl : (vtsOf es).length = es.length := by unfold vtsOf; rw [List.length_map]
    have hat : ∀ j x, (vtsOf es)[j]? = some x → ∃ e : RowE × Int, es[j]? = some e ∧ x = (e.1.xs, e.2) := fun j x hx => by
      unfold vtsOf at hx
      rw [List.getElem?_map, Option.map_eq_some_iff] at hx
      obtain ⟨e, he, h⟩ := hx
      exact ⟨e, he, h.symm⟩
    have hM : MatV w B g (fun j => ((es[j]?).map (fun e => rowV e.1)).getD undef) (vtsOf es) := by
      refine ⟨hg, ⟨_, by rw [hl]; exact hB, fun j x hx => ?_⟩, fun j x hx => ?_, fun o ho => ?_, fun o o' k ho ho' hne hk => ?_⟩
      · obtain ⟨e, he, rfl⟩ := hat j x hx
        obtain ⟨c0, c1⟩ := vtL_at he
        simp only [List.getD, c0, c1, he, Option.map_some, Option.getD_some]; exact ⟨trivial, trivial⟩
      · obtain ⟨e, he, rfl⟩ := hat j x hx
        simp only [he, Option.map_some, Option.getD_some]
        exact h2.1 e.1 (List.mem_map_of_mem (List.mem_of_getElem? he))
      · obtain ⟨e, he⟩ := at_of_lt (xs := es) (k := o) (by omega)
        simp only [he, Option.map_some, Option.getD_some]
        rcases rowsV_ne h1 h2 e.1 (List.mem_map_of_mem (List.mem_of_getElem? he)) with h | h
        · rw [h]; exact fun e => by cases e
        · exact h
      · obtain ⟨e, he⟩ := at_of_lt (xs := es) (k := o) (by omega)
        obtain ⟨e', he'⟩ := at_of_lt (xs := es) (k := o') (by omega)
        simp only [he, he', Option.map_some, Option.getD_some] at hk ⊢
        have hp := List.pairwise_iff_getElem.1 h2.2
        have e1 : (es.map Prod.fst)[o]? = some e.1 := by rw [List.getElem?_map, he]; rfl
        have e2 : (es.map Prod.fst)[o']? = some e'.1 := by rw [List.getElem?_map, he']; rfl
        obtain ⟨l1, g1⟩ := List.getElem?_eq_some_iff.1 e1
        obtain ⟨l2, g2⟩ := List.getElem?_eq_some_iff.1 e2
        rcases Nat.lt_or_ge o o' with hlt | hge
        · have := hp o o' l1 l2 hlt k (by rw [g1]; exact hk)
          rw [g2] at this; exact this
        · intro hk2
          have := hp o' o l2 l1 (by omega) k (by rw [g2]; exact hk2)
          rw [g1] at this; exact this hk
    refine ⟨_, c, by rw [hl], hM.rd, fun _ => ⟨g, _, rfl, hM, hB.lt, fun j hj b hb => ?_⟩⟩
    obtain ⟨x, hx⟩ := at_of_lt hj
    exact (World.ownsRow.lt (hM.row j x hx) b hb).2

/-- v is a list of votes that hold marks. -/
def MarkVt (w : World) (v : Value) (xss : List (List Int)) (k0 : Int) : Prop := ∃ a c, v = .slice a xss.length c ∧
  ∀ j xs, xss[j]? = some xs → ∃ g a' c', a = some ⟨g, 0, none⟩ ∧ w.cell? ⟨g, j * 2, none⟩ = some (.slice a' xs.length c') ∧ RdI w a' (markL (mkAt xss k0 j) xs.length) ∧ w.cell? ⟨g, j * 2 + 1, none⟩ = some (.int .i64 (mkAt xss k0 j + xs.length))
set_option maxRecDepth 100000 in
theorem MarkVt.ext {w w' : World} {v : Value} {xss : List (List Int)} {k0 : Int} (h : MarkVt w v xss k0) (hw : Ext w w') : MarkVt w' v xss k0 := by
  obtain ⟨a, c, hv, ho⟩ := h
  refine ⟨a, c, hv, fun j xs hx => ?_⟩
  obtain ⟨g, a', c', h1, h2, h3, h4⟩ := ho j xs hx
  exact ⟨g, a', c', h1, hw.keep h2, h3.ext hw, hw.keep h4⟩
set_option maxRecDepth 100000 in
theorem markVt (w : World) (B H : Nat) (v : Value) (vs : List Vt) (k0 : Int) (h : WrVt w B H v vs) (hl : vs.length ≤ 1000) (hm : ∀ x ∈ vs.map Prod.fst, x.length ≤ 100) (h0 : 0 ≤ k0) (h1 : k0 ≤ 1000000) :
    Calls Try.prog 21 #[v, .int .i64 k0] w fun e w' => e = .returned (.int .i64 (mkAt (vs.map Prod.fst) k0 vs.length)) ∧ Rng B H w w' ∧ MarkVt w' v (vs.map Prod.fst) k0 := by
  obtain ⟨a, c, rfl, hR, ho⟩ := h
  by_cases hne : vs = []
  · subst hne
    go_enter Try.func21, Try.ntmps21
    go_wp2
    refine wp_loop_rounds 1 ?_
    rw [rounds_succ]
    go_wp2
    go_ret
    exact ⟨by simp [mkAt, totL], Rng.of_ext (Ext.refl _), a, c, rfl, fun j xs hx => by simp at hx⟩
  · obtain ⟨g, us, rfl, hM, hgH, hbH⟩ := ho hne
    refine (markVt1 w B H g vs.length c us (vs.map Prod.fst) k0 (hM.mk0 hgH hbH k0) (by rw [Hid, List.length_map]) hl hm h0 h1).mono ?_
    rintro e w' ⟨rfl, hR, hK⟩
    refine ⟨rfl, hR, some ⟨g, 0, none⟩, c, by rw [List.length_map], fun j xs hx => ?_⟩
    have hj := lt_of_at hx
    rw [List.length_map] at hj
    obtain ⟨a', c', e1, h2, _⟩ := hK.done j xs hx hj
    obtain ⟨F, hB, hF, hF2⟩ := hK.outer
    rw [List.length_map] at hB hF
    exact ⟨g, a', c', rfl, by rw [hB.cell (j * 2) (by omega), hF j hj, e1], h2, by rw [hB.cell (j * 2 + 1) (by omega), hF2 j xs hx hj]⟩

set_option maxRecDepth 100000 in
set_option maxHeartbeats 2000000 in
theorem heldVt1 (w : World) (a : Option Addr) (n c : Nat) (xss : List (List Int)) (k0 : Int)
    (h : ∀ j xs, xss[j]? = some xs → ∃ g a' c', a = some ⟨g, 0, none⟩ ∧ w.cell? ⟨g, j * 2, none⟩ = some (.slice a' xs.length c') ∧ RdI w a' (markL (mkAt xss k0 j) xs.length) ∧ w.cell? ⟨g, j * 2 + 1, none⟩ = some (.int .i64 (mkAt xss k0 j + xs.length)))
    (hn : Hid (xss.length = n)) (hl : n ≤ 1000) (hm : ∀ x ∈ xss, x.length ≤ 100) (h0 : 0 ≤ k0) (h1 : k0 ≤ 1000000) :
    Calls Try.prog 22 #[.slice a n c, .int .i64 k0] w fun e w' => e = .returned (.int .i64 (mkAt xss k0 n)) ∧ Ext w w' := by
  have HM := hide hm
  have HL := hide (totL_le hm)
  clear hm
  have H := hide h
  clear h
  go_enter Try.func22, Try.ntmps22
  go_wp2_with fail
  go_loopw [1, 5] (fun m i wr => ∃ k : Nat, k ≤ n ∧ i = .int .i64 k ∧ m = .int .i64 (mkAt xss k0 k) ∧ Ext w wr) (fun _ i _ => n - (intOf i).toNat)
  case atStart => exact ⟨0, Nat.zero_le _, rfl, by unfold mkAt; rw [totL_zero]; simp, Ext.refl _⟩
  case round =>
    obtain ⟨k, hk, rfl, rfl, hwr⟩ := hrel
    have ht := HL.out k (by rw [hn.out]; exact hk)
    have hK : 0 ≤ mkAt xss k0 k ∧ mkAt xss k0 k ≤ 2000000 := by unfold mkAt; omega
    clear ht
    by_cases hlt : k < n
    · obtain ⟨x, hx⟩ := at_of_lt (xs := xss) (k := k) (by rw [hn.out]; exact hlt)
      have hxl := HM.out x (List.mem_of_getElem? hx)
      obtain ⟨g, a', c', rfl, c0, hR, c1⟩ := H.out k x hx
      have E2 := hide (mkAt_succ (k0 := k0) hx)
      clear hx
      obtain ⟨K, hKK⟩ : ∃ K : Int, K = mkAt xss k0 k := ⟨_, rfl⟩
      rw [← hKK] at hK E2 hR c1 ⊢
      clear hKK
      have c0 := hwr.keep c0
      have c1 := hwr.keep c1
      go_wp2_with fail
      refine (heldIS _ a' c' x.length _ _ (hR.ext hwr) (by show (markL _ _).length = _; simp [markL]) (fun j y hy => by
        have hj := lt_of_at hy
        unfold markL at hy hj
        rw [List.length_map, List.length_range] at hj
        simp only [List.getElem?_map, List.getElem?_range hj, Option.map_some] at hy
        injection hy with hy
        exact hy.symm) (by omega) (by omega) (by omega)).mono ?_
      rintro e w1 ⟨rfl, hw1⟩
      have c1 := hw1.keep c1
      have hp : ¬ (K + (x.length : Int) < 0) := by omega
      go_wp2
      exact ⟨⟨k + 1, by omega, by go_num, by rw [E2.out], hwr.trans hw1⟩, by simp [intOf]; omega⟩
    · have hkn : k = n := by omega
      go_wp2
      go_ret
      exact ⟨ret_int (by rw [hkn]), hwr⟩

set_option maxRecDepth 100000 in
set_option maxHeartbeats 1000000 in
theorem has_any (w : World) (sz : Int) (a : Option Addr) (n c : Nat) (x : Int) :
    Calls Try.prog 16 #[.agg #[.int .i64 sz, .slice a n c], .int .i64 x] w fun e w' => e = .returned (.bool (inR x 0 (wrap64 (sz - 1)))) ∧ Ext w w' := by
  go_enter Try.func16, Try.ntmps16
  go_wp2_with (go_at_call 28; refine (in_impl _ _ _ _).mono ?_; rintro e w1 ⟨rfl, hw1⟩)
  go_ret
  exact ⟨rfl, (by repeat (first | exact Ext.refl _ | assumption | refine Ext.alloc ?_ _ | refine Ext.drew ?_ | refine Ext.trans ?_ (by assumption)))⟩

set_option maxRecDepth 100000 in
set_option maxHeartbeats 4000000 in
theorem chg_no (K : Nat) (fst cap : Array Value) (w : World) (sz s2 : Int) (a : Option Addr) (c : Nat) (vs : List Vt) (hR : RdV w a vs) (h0 : profOk sz vs = false) :
    Calls Try.prog 17 #[.agg #[.int .i64 sz, .slice a vs.length c], .int .i64 s2, .func (.func K) fst cap] w fun e w' => e = .returned (.tuple #[.agg #[.int .i64 0, .slice none 0 0], .bool false]) ∧ Ext w w' := by
  have q0 := new0 w (.int .i64 sz) [.slice a vs.length c] 28
  have q1 := new1 w (.int .i64 sz) (.slice a vs.length c) [] 28
  have hE1 := Ext.new w (.cells #[.int .i64 sz, .slice a vs.length c] 28)
  have hs0 : (w.alloc (.cells #[.int .i64 sz, .slice a vs.length c] 28)).heap.size = w.heap.size + 1 := by simp
  have p0 := BlkF.new (w.alloc (.cells #[.int .i64 sz, .slice a vs.length c] 28)) #[.int .i64 0, .slice none 0 0] 28
  have hE2 := Ext.new (w.alloc (.cells #[.int .i64 sz, .slice a vs.length c] 28)) (.cells #[.int .i64 0, .slice none 0 0] 28)
  rw [hs0] at p0
  have HO : Hid (∀ w', Ext w w' → Calls Try.prog 29 #[.agg #[.int .i64 sz, .slice a vs.length c]] w' fun e w'' => e = .returned (.bool false) ∧ Ext w' w'') := fun w' hw' => by
    have h := prof_impl w' sz a c vs (hR.ext hw')
    rw [h0] at h; exact h
  clear h0
  go_enter Try.func17, Try.ntmps17
  go_wp2_with fail
  have hw2 : Ext w ((w.alloc (.cells #[.int .i64 sz, .slice a vs.length c] 28)).alloc (.cells #[.int .i64 0, .slice none 0 0] 28)) := hE1.trans hE2
  refine (HO.out _ hw2).mono ?_
  rintro e w1 ⟨rfl, hw1⟩
  have p1 := p0.ext hw1
  have r0 := p1.cell 0 (by simp)
  have r1 := p1.cell 1 (by simp)
  have z0 := p1.fr 0
  have z1 := p1.fr 1
  clear p1 p0
  go_wp2
  have hO1 : Only (w.heap.size + 1) w1 ((w1.setCell ⟨w.heap.size + 1, 0, none⟩ (.int .i64 0)).setCell ⟨w.heap.size + 1, 1, none⟩ (.slice none 0 0)) := ((Only.refl _ w1).setCell 0 _).setCell 1 _
  refine bodyPost_ret (v := .tuple #[.agg #[.int .i64 0, .slice none 0 0], .bool false]) (by simp [results, Try.results17, go_sem, r0, r1]) rfl ⟨rfl, Only.ext (hw2.trans hw1) hO1 (by omega)⟩

set_option maxRecDepth 100000 in
set_option maxHeartbeats 4000000 in
theorem drp_no1 (w : World) (sz : Int) (a : Option Addr) (c : Nat) (vs : List Vt) (y : Int) (h0 : inR y 0 (wrap64 (sz - 1)) = false) :
    Calls Try.prog 7 #[.agg #[.int .i64 sz, .slice a vs.length c], .int .i64 y] w fun e w' => e = .returned (.tuple #[.agg #[.int .i64 0, .slice none 0 0], .bool false]) ∧ Ext w w' := by
  have q0 := new0 w (.int .i64 sz) [.slice a vs.length c] 28
  have q1 := new1 w (.int .i64 sz) (.slice a vs.length c) [] 28
  have hE1 := Ext.new w (.cells #[.int .i64 sz, .slice a vs.length c] 28)
  have hs0 : (w.alloc (.cells #[.int .i64 sz, .slice a vs.length c] 28)).heap.size = w.heap.size + 1 := by simp
  have y00 := new0 (w.alloc (.cells #[.int .i64 sz, .slice a vs.length c] 28)) (.int .i64 y) [] 3
  have hE2 := Ext.new (w.alloc (.cells #[.int .i64 sz, .slice a vs.length c] 28)) (.cells #[.int .i64 y] 3)
  have hs1 : ((w.alloc (.cells #[.int .i64 sz, .slice a vs.length c] 28)).alloc (.cells #[.int .i64 y] 3)).heap.size = w.heap.size + 2 := by simp
  have p0 := BlkF.new ((w.alloc (.cells #[.int .i64 sz, .slice a vs.length c] 28)).alloc (.cells #[.int .i64 y] 3)) #[.int .i64 0, .slice none 0 0] 28
  have hE3 := Ext.new ((w.alloc (.cells #[.int .i64 sz, .slice a vs.length c] 28)).alloc (.cells #[.int .i64 y] 3)) (.cells #[.int .i64 0, .slice none 0 0] 28)
  rw [hs0] at y00
  rw [hs1] at p0
  have q0 := (hE2.trans hE3).keep q0
  have q1 := (hE2.trans hE3).keep q1
  have y00 := hE3.keep y00
  have hw3 : Ext w (((w.alloc (.cells #[.int .i64 sz, .slice a vs.length c] 28)).alloc (.cells #[.int .i64 y] 3)).alloc (.cells #[.int .i64 0, .slice none 0 0] 28)) := hE1.trans (hE2.trans hE3)
  have HH : Hid (∀ w', Calls Try.prog 16 #[.agg #[.int .i64 sz, .slice a vs.length c], .int .i64 y] w' fun e w'' => e = .returned (.bool false) ∧ Ext w' w'') := fun w' => by
    have h := has_any w' sz a vs.length c y
    rw [h0] at h; exact h
  clear h0 hs0 hs1
  go_enter Try.func7, Try.ntmps7
  go_wp2_with fail
  refine (HH.out _).mono ?_
  rintro e w1 ⟨rfl, hw1⟩
  have p1 := p0.ext hw1
  have r0 := p1.cell 0 (by simp)
  have r1 := p1.cell 1 (by simp)
  have z0 := p1.fr 0
  have z1 := p1.fr 1
  clear p1
  clear p0
  go_wp2
  have hO1 : Only (w.heap.size + 2) w1 ((w1.setCell ⟨w.heap.size + 2, 0, none⟩ (.int .i64 0)).setCell ⟨w.heap.size + 2, 1, none⟩ (.slice none 0 0)) := ((Only.refl _ w1).setCell 0 _).setCell 1 _
  refine bodyPost_ret (v := .tuple #[.agg #[.int .i64 0, .slice none 0 0], .bool false]) (by simp [results, Try.results7, go_sem, r0, r1]) rfl ⟨rfl, Only.ext (hw3.trans hw1) hO1 (by omega)⟩

set_option maxRecDepth 100000 in
set_option maxHeartbeats 4000000 in
theorem drp_no2 (w : World) (a : Option Addr) (c : Nat) (vs : List Vt) (y : Int) (h0 : inR y 0 (wrap64 ((1 : Int) - 1)) = true) :
    Calls Try.prog 7 #[.agg #[.int .i64 1, .slice a vs.length c], .int .i64 y] w fun e w' => e = .returned (.tuple #[.agg #[.int .i64 0, .slice none 0 0], .bool false]) ∧ Ext w w' := by
  have q0 := new0 w (.int .i64 1) [.slice a vs.length c] 28
  have q1 := new1 w (.int .i64 1) (.slice a vs.length c) [] 28
  have hE1 := Ext.new w (.cells #[.int .i64 1, .slice a vs.length c] 28)
  have hs0 : (w.alloc (.cells #[.int .i64 1, .slice a vs.length c] 28)).heap.size = w.heap.size + 1 := by simp
  have y00 := new0 (w.alloc (.cells #[.int .i64 1, .slice a vs.length c] 28)) (.int .i64 y) [] 3
  have hE2 := Ext.new (w.alloc (.cells #[.int .i64 1, .slice a vs.length c] 28)) (.cells #[.int .i64 y] 3)
  have hs1 : ((w.alloc (.cells #[.int .i64 1, .slice a vs.length c] 28)).alloc (.cells #[.int .i64 y] 3)).heap.size = w.heap.size + 2 := by simp
  have p0 := BlkF.new ((w.alloc (.cells #[.int .i64 1, .slice a vs.length c] 28)).alloc (.cells #[.int .i64 y] 3)) #[.int .i64 0, .slice none 0 0] 28
  have hE3 := Ext.new ((w.alloc (.cells #[.int .i64 1, .slice a vs.length c] 28)).alloc (.cells #[.int .i64 y] 3)) (.cells #[.int .i64 0, .slice none 0 0] 28)
  rw [hs0] at y00
  rw [hs1] at p0
  have q0 := (hE2.trans hE3).keep q0
  have q1 := (hE2.trans hE3).keep q1
  have y00 := hE3.keep y00
  have hw3 : Ext w (((w.alloc (.cells #[.int .i64 1, .slice a vs.length c] 28)).alloc (.cells #[.int .i64 y] 3)).alloc (.cells #[.int .i64 0, .slice none 0 0] 28)) := hE1.trans (hE2.trans hE3)
  have HH : Hid (∀ w', Calls Try.prog 16 #[.agg #[.int .i64 1, .slice a vs.length c], .int .i64 y] w' fun e w'' => e = .returned (.bool true) ∧ Ext w' w'') := fun w' => by
    have h := has_any w' 1 a vs.length c y
    rw [h0] at h; exact h
  clear h0 hs0 hs1
  go_enter Try.func7, Try.ntmps7
  go_wp2_with fail
  refine (HH.out _).mono ?_
  rintro e w1 ⟨rfl, hw1⟩
  have p1 := p0.ext hw1
  have q0 := hw1.keep q0
  have q1 := hw1.keep q1
  have r0 := p1.cell 0 (by simp)
  have r1 := p1.cell 1 (by simp)
  have z0 := p1.fr 0
  have z1 := p1.fr 1
  clear p1
  clear p0
  go_wp2
  have hO1 : Only (w.heap.size + 2) w1 ((w1.setCell ⟨w.heap.size + 2, 0, none⟩ (.int .i64 0)).setCell ⟨w.heap.size + 2, 1, none⟩ (.slice none 0 0)) := ((Only.refl _ w1).setCell 0 _).setCell 1 _
  refine bodyPost_ret (v := .tuple #[.agg #[.int .i64 0, .slice none 0 0], .bool false]) (by simp [results, Try.results7, go_sem, r0, r1]) rfl ⟨rfl, Only.ext (hw3.trans hw1) hO1 (by omega)⟩

set_option maxRecDepth 100000 in
set_option maxHeartbeats 4000000 in
theorem drp_no3 (w : World) (sz : Int) (a : Option Addr) (c : Nat) (vs : List Vt) (y : Int) (hR : RdV w a vs) (h0 : inR y 0 (wrap64 (sz - 1)) = true) (h1 : ¬ sz = 1) (hp : profOk sz vs = false) :
    Calls Try.prog 7 #[.agg #[.int .i64 sz, .slice a vs.length c], .int .i64 y] w fun e w' => e = .returned (.tuple #[.agg #[.int .i64 0, .slice none 0 0], .bool false]) ∧ Ext w w' := by
  have q0 := new0 w (.int .i64 sz) [.slice a vs.length c] 28
  have q1 := new1 w (.int .i64 sz) (.slice a vs.length c) [] 28
  have hE1 := Ext.new w (.cells #[.int .i64 sz, .slice a vs.length c] 28)
  have hs0 : (w.alloc (.cells #[.int .i64 sz, .slice a vs.length c] 28)).heap.size = w.heap.size + 1 := by simp
  have y00 := new0 (w.alloc (.cells #[.int .i64 sz, .slice a vs.length c] 28)) (.int .i64 y) [] 3
  have hE2 := Ext.new (w.alloc (.cells #[.int .i64 sz, .slice a vs.length c] 28)) (.cells #[.int .i64 y] 3)
  have hs1 : ((w.alloc (.cells #[.int .i64 sz, .slice a vs.length c] 28)).alloc (.cells #[.int .i64 y] 3)).heap.size = w.heap.size + 2 := by simp
  have p0 := BlkF.new ((w.alloc (.cells #[.int .i64 sz, .slice a vs.length c] 28)).alloc (.cells #[.int .i64 y] 3)) #[.int .i64 0, .slice none 0 0] 28
  have hE3 := Ext.new ((w.alloc (.cells #[.int .i64 sz, .slice a vs.length c] 28)).alloc (.cells #[.int .i64 y] 3)) (.cells #[.int .i64 0, .slice none 0 0] 28)
  rw [hs0] at y00
  rw [hs1] at p0
  have q0 := (hE2.trans hE3).keep q0
  have q1 := (hE2.trans hE3).keep q1
  have y00 := hE3.keep y00
  have hw3 : Ext w (((w.alloc (.cells #[.int .i64 sz, .slice a vs.length c] 28)).alloc (.cells #[.int .i64 y] 3)).alloc (.cells #[.int .i64 0, .slice none 0 0] 28)) := hE1.trans (hE2.trans hE3)
  have HH : Hid (∀ w', Calls Try.prog 16 #[.agg #[.int .i64 sz, .slice a vs.length c], .int .i64 y] w' fun e w'' => e = .returned (.bool true) ∧ Ext w' w'') := fun w' => by
    have h := has_any w' sz a vs.length c y
    rw [h0] at h; exact h
  have HC : Hid (∀ w' s2 K fst cap, Ext w w' → Calls Try.prog 17 #[.agg #[.int .i64 sz, .slice a vs.length c], .int .i64 s2, .func (.func K) fst cap] w' fun e w'' => e = .returned (.tuple #[.agg #[.int .i64 0, .slice none 0 0], .bool false]) ∧ Ext w' w'') := fun w' s2 K fst cap hw' => chg_no K fst cap w' sz s2 a c vs (hR.ext hw') hp
  clear h0 hs0 hs1 hp
  go_enter Try.func7, Try.ntmps7
  go_wp2_with fail
  refine (HH.out _).mono ?_
  rintro e w1 ⟨rfl, hw1⟩
  have p1 := p0.ext hw1
  have q0 := hw1.keep q0
  have q1 := hw1.keep q1
  clear p0
  go_wp2_with fail
  refine (HC.out _ _ _ _ _ (hw3.trans hw1)).mono ?_
  rintro e w2 ⟨rfl, hw2⟩
  have p1 := p1.ext hw2
  have r0 := p1.cell 0 (by simp)
  have r1 := p1.cell 1 (by simp)
  have z0 := p1.fr 0
  have z1 := p1.fr 1
  clear p1
  go_wp2
  have hO1 : Only (w.heap.size + 2) w2 ((w2.setCell ⟨w.heap.size + 2, 0, none⟩ (.int .i64 0)).setCell ⟨w.heap.size + 2, 1, none⟩ (.slice none 0 0)) := ((Only.refl _ w2).setCell 0 _).setCell 1 _
  refine bodyPost_ret (v := .tuple #[.agg #[.int .i64 0, .slice none 0 0], .bool false]) (by simp [results, Try.results7, go_sem, r0, r1]) rfl ⟨rfl, Only.ext (hw3.trans (hw1.trans hw2)) hO1 (by omega)⟩

def drpB (sz : Int) (vs : List Vt) (y : Int) : Bool := profOk sz vs && (inR y 0 (sz - 1) && !(sz == 1))
def drpZ (sz : Int) (vs : List Vt) (y : Int) : Int := if drpB sz vs y then sz - 1 else 0
def drpV (sz : Int) (vs : List Vt) (y : Int) : List Vt := if drpB sz vs y then vs.map (fun x => (dropL y x.1, x.2)) else []
set_option maxRecDepth 100000 in
theorem drpV_ok (sz : Int) (vs : List Vt) (y : Int) : (drpV sz vs y).length ≤ 24 ∧ ∀ x ∈ (drpV sz vs y).map Prod.fst, x.length ≤ 5 := by
  unfold drpV
  cases h : drpB sz vs y
  · simp
  · have hp : profOk sz vs = true := by unfold drpB at h; simp only [Bool.and_eq_true] at h; exact h.1
    have hs := prof_small hp
    rw [if_pos rfl]
    refine ⟨by rw [List.length_map]; exact hs.1, fun x hx => ?_⟩
    rw [List.mem_map] at hx
    obtain ⟨z, hz, rfl⟩ := hx
    rw [List.mem_map] at hz
    obtain ⟨u, hu, rfl⟩ := hz
    exact Nat.le_trans (dropL_len y u.1) (rk_len (hs.2 u hu).1).2
set_option maxRecDepth 100000 in
theorem drp_impl (w : World) (sz : Int) (a : Option Addr) (c : Nat) (vs : List Vt) (y : Int) (hR : RdV w a vs) :
    Calls Try.prog 7 #[.agg #[.int .i64 sz, .slice a vs.length c], .int .i64 y] w fun e w' => ∃ v, e = .returned (.tuple #[.agg #[.int .i64 (drpZ sz vs y), v], .bool (drpB sz vs y)]) ∧ WrVt w' w.heap.size w'.heap.size v (drpV sz vs y) ∧ Ext w w' := by
  have hno : drpB sz vs y = false → (Calls Try.prog 7 #[.agg #[.int .i64 sz, .slice a vs.length c], .int .i64 y] w fun e w' => e = .returned (.tuple #[.agg #[.int .i64 0, .slice none 0 0], .bool false]) ∧ Ext w w') → Calls Try.prog 7 #[.agg #[.int .i64 sz, .slice a vs.length c], .int .i64 y] w fun e w' => ∃ v, e = .returned (.tuple #[.agg #[.int .i64 (drpZ sz vs y), v], .bool (drpB sz vs y)]) ∧ WrVt w' w.heap.size w'.heap.size v (drpV sz vs y) ∧ Ext w w' := fun h hc => by
    unfold drpZ drpV
    rw [h]
    refine hc.mono ?_
    rintro e w' ⟨rfl, hw⟩
    exact ⟨_, rfl, WrVt.nil _ _ _ _ _, hw⟩
  cases hp : profOk sz vs
  · refine hno (by unfold drpB; rw [hp]; rfl) ?_
    cases hi : inR y 0 (wrap64 (sz - 1))
    · exact drp_no1 w sz a c vs y hi
    · by_cases h1 : sz = 1
      · subst h1; exact drp_no2 w a c vs y hi
      · exact drp_no3 w sz a c vs y hR hi h1 hp
  · have hsz := prof_size hp
    have hwr : wrap64 (sz - 1) = sz - 1 := IntWalk.wrap64_in _ (by omega)
    cases hi : inR y 0 (sz - 1)
    · refine hno (by unfold drpB; rw [hp, hi]; rfl) (drp_no1 w sz a c vs y (by rw [hwr]; exact hi))
    · by_cases h1 : sz = 1
      · subst h1
        exact hno (by unfold drpB; simp) (drp_no2 w a c vs y (by rw [hwr]; exact hi))
      · have hB : drpB sz vs y = true := by unfold drpB; rw [hp, hi]; simp [h1]
        have hy := inR_iff.1 hi
        unfold drpZ drpV
        rw [hB]
        refine (dropP_impl w sz a c vs y hR hp (by omega) (by omega)).mono ?_
        rintro e w' ⟨v, es, rfl, hl, hm, hw⟩
        exact ⟨v, rfl, by rw [if_pos rfl, ← hm]; exact hl.wr, hw⟩

set_option maxRecDepth 100000 in
theorem SzOk.bd {vs : List Vt} {r : Int} (h : SzOk 1048576 vs r) (hr : ¬ r < 0) : vs.length ≤ 1048576 ∧ ∀ x ∈ vs, x.1.length ≤ 1048576 := by
  rcases h with h | ⟨_, h1, h2⟩
  · exact absurd h hr
  · refine ⟨by omega, fun x hx => ?_⟩
    have := h2 x hx
    omega

set_option maxRecDepth 100000 in
theorem OwnV.mono {w : World} {lo lo' hi hi' g k : Nat} {vs : List Vt} (h : OwnV w lo hi g vs k) (h1 : lo' ≤ lo) (h2 : hi ≤ hi') : OwnV w lo' hi' g vs k := by
  obtain ⟨f, h, a1, a2, hB, hj⟩ := h
  refine ⟨f, h, by omega, by omega, hB, fun j x hk hx => ?_⟩
  obtain ⟨b0, b1, b2, b3, b4, b5⟩ := hj j x hk hx
  exact ⟨b0, b1, b2, by omega, b4, b5⟩
set_option maxRecDepth 100000 in
theorem OwnV.far {w : World} {lo hi g k : Nat} {vs : List Vt} (h : OwnV w lo hi g vs k) {p : Addr} (hp : p.block < lo) (v : Value) : OwnV (w.setCell p v) lo hi g vs k := by
  obtain ⟨f, h, a1, a2, hB, hj⟩ := h
  refine ⟨f, h, by omega, by omega, hB.far (by omega) v, fun j x hk hx => ?_⟩
  obtain ⟨b0, b1, b2, b3, b4, fi, b5, b6⟩ := hj j x hk hx
  exact ⟨b0, b1, b2, b3, b4, fi, b5.far (by omega) v, b6⟩

set_option maxRecDepth 100000 in
set_option maxHeartbeats 1000000 in
theorem toP (w : World) (sz : Int) (a : Option Addr) (c : Nat) (vs : List Vt) (hR : RdV w a vs) (hl : vs.length ≤ 1048576) (hm : ∀ x ∈ vs, x.1.length ≤ 1048576) :
    Calls Try.prog 6 #[.agg #[.int .i64 sz, .slice a vs.length c]] w fun e w' => ∃ g, e = .returned (.agg #[.int .i64 sz, .slice (some ⟨g, 0, none⟩) vs.length vs.length]) ∧
      OwnV w' w.heap.size w'.heap.size g vs vs.length ∧ Ext w w' := by
  go_enter Try.func6, Try.ntmps6
  go_wp2_with fail
  refine (toVS _ _ _ _ (hR.ext (by repeat (first | exact Ext.refl _ | assumption | refine Ext.alloc ?_ _ | refine Ext.drew ?_ | refine Ext.trans ?_ (by assumption)))) hl hm).mono ?_
  rintro e w1 ⟨g, rfl, hO, hw1⟩
  have p0 := hw1.keep (p := ⟨w.heap.size + 1 + 1, 0, none⟩) (v := .int .i64 sz) (by go_simp)
  have p1 := hw1.keep (p := ⟨w.heap.size + 1 + 1, 1, none⟩) (v := .slice none 0 0) (by go_simp)
  have p2 := hw1.keep (p := ⟨w.heap.size + 1, 0, none⟩) (v := .int .i64 0) (by go_simp)
  have p3 := hw1.keep (p := ⟨w.heap.size + 1, 1, none⟩) (v := .slice none 0 0) (by go_simp)
  have z1 : w1.frozen? ⟨w.heap.size + 1 + 1, 1, none⟩ = false := (hw1.frozenS _ (by go_simp)).trans (by go_simp)
  have z2 : w1.frozen? ⟨w.heap.size + 1, 0, none⟩ = false := (hw1.frozenS _ (by go_simp)).trans (by go_simp)
  have z3 : w1.frozen? ⟨w.heap.size + 1, 1, none⟩ = false := (hw1.frozenS _ (by go_simp)).trans (by go_simp)
  have HO := hide hO
  clear hO
  go_wp2
  refine bodyPost_ret (v := .agg #[.int .i64 sz, .slice (some ⟨g, 0, none⟩) vs.length vs.length]) (by simp [results, Try.results6, go_sem, p2, p3]) rfl ⟨g, rfl, ?_, ?_⟩
  · have hO := HO.out
    exact (((hO.far (by simp) _).far (by simp) _).far (by simp) _).mono (by simp; omega) (by simp [World.setCell])
  · exact ((((by simpa using hw1.a.a.a : Ext w w1).setCell (by simp; omega) _).setCell (by simp) _).setCell (by simp) _)

set_option maxRecDepth 100000 in
theorem toP_rd (w : World) (sz : Int) (a : Option Addr) (c : Nat) (vs : List Vt) (hR : RdV w a vs) (hl : vs.length ≤ 1048576) (hm : ∀ x ∈ vs, x.1.length ≤ 1048576) :
    Calls Try.prog 6 #[.agg #[.int .i64 sz, .slice a vs.length c]] w fun e w' => ∃ a', e = .returned (.agg #[.int .i64 sz, .slice a' vs.length vs.length]) ∧ RdV w' a' vs ∧ Ext w w' :=
  (toP w sz a c vs hR hl hm).mono fun _ _ ⟨g, he, hO, hw⟩ => ⟨some ⟨g, 0, none⟩, he, hO.rd, hw⟩

/-- What the copy of a profile is good for: it may be marked. -/
def MkP (w : World) (lo hi : Nat) (a : Option Addr) (vs : List Vt) : Prop := ∃ g, a = some ⟨g, 0, none⟩ ∧ OwnV w lo hi g vs vs.length
set_option maxRecDepth 100000 in
theorem MkP.ext {w w' : World} {lo hi : Nat} {a : Option Addr} {vs : List Vt} (h : MkP w lo hi a vs) (hw : Ext w w') : MkP w' lo hi a vs := by
  obtain ⟨g, ha, hO⟩ := h
  exact ⟨g, ha, hO.ext hw⟩
set_option maxRecDepth 100000 in
theorem toP_mk (w : World) (sz : Int) (a : Option Addr) (c : Nat) (vs : List Vt) (hR : RdV w a vs) (hl : vs.length ≤ 1048576) (hm : ∀ x ∈ vs, x.1.length ≤ 1048576) :
    Calls Try.prog 6 #[.agg #[.int .i64 sz, .slice a vs.length c]] w fun e w' => ∃ a', e = .returned (.agg #[.int .i64 sz, .slice a' vs.length vs.length]) ∧ RdV w' a' vs ∧ MkP w' w.heap.size w'.heap.size a' vs ∧ Ext w w' :=
  (toP w sz a c vs hR hl hm).mono fun _ _ ⟨g, he, hO, hw⟩ => ⟨some ⟨g, 0, none⟩, he, hO.rd, ⟨g, rfl, hO⟩, hw⟩
set_option maxRecDepth 100000 in
theorem markP_mk (w : World) (sz : Int) (lo hi : Nat) (a : Option Addr) (c : Nat) (vs : List Vt) (h : MkP w lo hi a vs) (hl : vs.length ≤ 1048576) (hm : ∀ x ∈ vs, x.1.length ≤ 1048576) :
    Calls Try.prog 9 #[.agg #[.int .i64 sz, .slice a vs.length c], .int .i64 1] w fun e w' => ∃ m : Int, e = .returned (.int .i64 m) ∧ 0 ≤ m ∧ Rng lo hi w w' := by
  obtain ⟨g, rfl, hO⟩ := h
  exact markP w sz lo hi g c vs hO hl hm

end Go.Proofs.Ytafdedgckbhhjaa
