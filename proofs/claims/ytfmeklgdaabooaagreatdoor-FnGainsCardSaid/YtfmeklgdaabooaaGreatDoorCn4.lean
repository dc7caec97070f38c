/- Appends that say where the new list lies: in its old block, or in a new one. The source of numbers that a code is. What the statements' reading of bytes says of memory. The library's searches over integers with a function. Who prefers whom: places, preferences, weights of voters, margins. Pair counts, margins and beats on both sides. How many rank a candidate behind, or before, all others that are left. -/
import Derived.Test.YtfmeklgdaabooaaGreatDoorCn3
import Derived.Test.YtfmeklgdaabooaaGreatDoorCn1
import Derived.Test.YtfmeklgdaabooaaGreatDoorCn2
namespace Go.Proofs.YtfmeklgdaabooaaGreatDoor
open Go.RowKit

/-- The list lies where it lay, or in memory that was not there. -/
def Fresh (w : World) (v v' : Value) : Prop := v'.ownBlock = v.ownBlock ∨ ∀ k, v'.ownBlock = some k → w.heap.size ≤ k

set_option maxRecDepth 100000 in
theorem run_append_fresh {P : Program} (w : World) (base : Nat) (t ty e : TypeId) (i : TypeInfo) (z : Value) (size bytes : Nat) (ht : P.underlying t = some (.slice e)) (hi : P.info? e = some i) (hz : i.zero = some z)
    (hsize : i.size = size) (hby : i.bytes = bytes) (hzs : z.cells.size = size) (hsz : 0 < size)
    (v : Value) (n : Nat) (xs : List Value) (hown : w.ownsRow base e size v n xs)
    (a : Addr) (m c : Nat) (news : List Value) (hl : news.length = m * size) (hnews : ∀ (j : Nat) u, news[j]? = some u → w.cell? (a.add j) = some u) (h1 : ∀ u ∈ news, u.oneCell' = true) (hm : 0 < m)
    (h63 : n + m ≤ maxLen) (hbytes : (n + m) * bytes ≤ 140737488355328) (hbase : base ≤ w.heap.size) :
    ∃ v' w', (Builtin.append_ #[t, t] ty #[v, .slice (some a) m c]).run P w = .ok v' w' ∧ w'.ownsRow base e size v' (n + m) (xs ++ news) ∧ w.grownBy w' v.ownBlock ∧ Fresh w v v' := by
  obtain ⟨v', w', hr, h2, h3, _⟩ := run_append_own (P := P) w base t ty e i z size bytes ht hi hz hsize hby hzs hsz v n xs hown a m c news hl hnews h1 h63 hbytes hbase
  refine ⟨v', w', hr, h2, h3, ?_⟩
  subst hsize
  subst hby
  have hmx : n + m ≤ 9223372036854775807 := by simp only [maxLen] at h63; omega
  rcases hown.2 with ⟨rfl, rfl⟩ | ⟨g, cap, cur, rfl, hbg, hg, hnc, hcm, hcs, htake⟩
  · have hr2 := run_append_nil (P := P) w t ty e i z ht hi hz a m c news hl hnews hm (by omega) (by have hb := hbytes; simp only [Nat.zero_add] at hb; omega)
    rw [hr] at hr2
    injection hr2 with e1 e2
    subst e1
    exact .inr (fun k hk => by simp only [Value.ownBlock, Option.some.injEq] at hk; omega)
  · by_cases hroom : n + m ≤ cap
    · have hfit : n * i.size + news.length ≤ cur.size := by rw [hl, hcs, ← Nat.add_mul]; exact Nat.mul_le_mul_right _ hroom
      have hr2 := run_append_room (P := P) w t ty e i ht hi g n cap cur hg a m c news hl hnews h1 hroom hfit
      rw [hr] at hr2
      injection hr2 with e1 e2
      subst e1
      exact .inl rfl
    · have holds : ∀ (j : Nat) u, xs[j]? = some u → w.cell? ((⟨g, 0, none⟩ : Addr).add j) = some u := hown.cells (g := g) rfl
      have hr2 := run_append_grow (P := P) w t ty e i z ht hi hz ⟨g, 0, none⟩ n cap xs hown.1 holds a m c news hl hnews (by omega) (by omega) (growslice_fits (by omega) hbytes)
      rw [hr] at hr2
      injection hr2 with e1 e2
      subst e1
      exact .inr (fun k hk => by simp only [Value.ownBlock, Option.some.injEq] at hk; omega)

set_option maxRecDepth 100000 in
theorem wpList_appF {ops : Array Oper} {rest : List Oper} {o : Oper} {a : Act} {Q : Exit → Act → World → Prop} (B : Nat) (w3 : World) (hgd : o.guard = none) (s x : Operand)
    (ho : o.op = .call { callee := .builtin .append, args := #[s, x], argTypes := #[28, 28] }) (v : Value) (xs : List Int) (y : Int) (hs : a.eval s = v) (hown : OwnI w3 B v xs) (hB : B ≤ w3.heap.size)
    (hx : a.eval x = .slice (some ⟨w3.heap.size, 0, none⟩) 1 1) (hlen : xs.length ≤ 2000000)
    (h : ∀ v' w', OwnI w' B v' (xs ++ [y]) → w3.grownBy w' v.ownBlock → Fresh w3 v v' → wpList Tryz.prog ops Q rest (a.put o.dst v') w') : wpList Tryz.prog ops Q (o :: rest) a (w3.alloc (.cells #[.int .i64 y] 3)) := by
  obtain ⟨i0, hi, hz0, hz1, hz2⟩ := info_parts info_int
  have hown3 := hown.ext (Ext.new w3 (.cells #[.int .i64 y] 3))
  obtain ⟨v', w', hr, h1, h2, h3⟩ := run_append_fresh (P := Tryz.prog) (w3.alloc (.cells #[.int .i64 y] 3)) B 28 o.type 3 i0 (.int .i64 0) 1 8 Tryz.underlying28 hi hz0 hz1 hz2 rfl (by decide) v xs.length _ hown3 ⟨w3.heap.size, 0, none⟩ 1 1 [.int .i64 y] rfl
    (fun j u hj => by
      match j, hj with
      | 0, hj => simp at hj; subst hj; simp [Addr.add])
    (fun u hu => by simp at hu; subst hu; rfl) (by decide) (by unfold maxLen; omega) (by omega) (by simp; omega)
  refine wpList_plain hgd fun K hK => ?_
  unfold Oper.wp execOp
  simp only [ho, resolve, invoke, builtin, Sem.run_bind, Sem.run_pure, Result.andThen_ok, List.map_toArray, List.map_cons, List.map_nil, hs, hx, hr]
  refine hK _ _ (h v' w' ?_ ?_ ?_)
  · unfold OwnI
    simpa using h1
  · exact ⟨h2.os, h2.tape, h2.output, Nat.le_trans (by simp) h2.size, fun k hk hne => (h2.block k (by simp; omega) hne).trans (Below.block (Ext.new w3 (.cells #[.int .i64 y] 3)) k hk)⟩
  · rcases h3 with h3 | h3
    · exact .inl h3
    · exact .inr (fun k hk => by have := h3 k hk; simp at this; omega)

/-- Blocks from lo on and below hi are as they were. -/
def Keeps (lo hi : Nat) (w w' : World) : Prop := w.heap.size ≤ w'.heap.size ∧ ∀ k, lo ≤ k → k < hi → w'.heap[k]? = w.heap[k]?
set_option maxRecDepth 100000 in
theorem Keeps.refl (lo hi : Nat) (w : World) : Keeps lo hi w w := ⟨Nat.le_refl _, fun _ _ _ => rfl⟩
set_option maxRecDepth 100000 in
theorem Keeps.ext {lo hi : Nat} {w w' w'' : World} (h : Keeps lo hi w w') (hw : Ext w' w'') (hh : hi ≤ w'.heap.size) : Keeps lo hi w w'' :=
  ⟨Nat.le_trans h.1 hw.size, fun k h1 h2 => (Below.block hw k (by omega)).trans (h.2 k h1 h2)⟩
set_option maxRecDepth 100000 in
theorem Keeps.grown {lo hi : Nat} {w w' w'' : World} {row : Option Nat} (h : Keeps lo hi w w') (hg : w'.grownBy w'' row) (hh : hi ≤ w'.heap.size) (hr : ∀ k, row = some k → k < lo ∨ hi ≤ k) : Keeps lo hi w w'' :=
  ⟨Nat.le_trans h.1 hg.size, fun k h1 h2 => (hg.block k (by omega) (fun e => by have := hr k e.symm; omega)).trans (h.2 k h1 h2)⟩
set_option maxRecDepth 100000 in
theorem Fresh.out {w : World} {v v' : Value} {lo hi : Nat} (h : Fresh w v v') (hv : ∀ k, v.ownBlock = some k → k < lo ∨ hi ≤ k) (hh : hi ≤ w.heap.size) : ∀ k, v'.ownBlock = some k → k < lo ∨ hi ≤ k := fun k hk => by
  rcases h with h | h
  · exact hv k (by rw [← h]; exact hk)
  · have := h k hk; omega
set_option maxRecDepth 100000 in
theorem OwnI.keeps {w w' : World} {B hi : Nat} {v : Value} {xs : List Int} (h : OwnI w B v xs) (hw : Keeps B hi w w') (hb : ∀ k, v.ownBlock = some k → k < hi) : OwnI w' B v xs := by
  obtain ⟨h1, h2⟩ := h
  refine ⟨h1, ?_⟩
  rcases h2 with h2 | ⟨g, cap, cur, rfl, hg, hh, r⟩
  · exact .inl h2
  · exact .inr ⟨g, cap, cur, rfl, hg, by rw [hw.2 g hg (hb g rfl)]; exact hh, r⟩
set_option maxRecDepth 100000 in
theorem Mat.keeps {w w' : World} {B hi g n : Nat} {us : Nat → Value} {rows : Nat → List Int} (h : Mat w B g n us rows) (hw : Keeps B hi w w') (hh : w.heap.size ≤ hi) : Mat w' B g n us rows := by
  have hl := h.outer.lt
  have hg := hw.2 g h.base (by omega)
  exact ⟨h.base, ⟨Nat.lt_of_lt_of_le hl hw.1, fun o => (World.frozen?_of_block (w := w) hg).trans (h.outer.fr o), fun o ho => (World.cell?_of_block (w := w) hg).trans (h.outer.cell o ho)⟩,
    fun o ho => (h.row o ho).keeps hw (fun k hk => Nat.lt_of_lt_of_le (World.ownsRow.lt (h.row o ho) k hk).2 hh), h.far, h.dis⟩
set_option maxRecDepth 100000 in
theorem WrSS.keeps {w w' : World} {B hi : Nat} {v : Value} {xss : List (List Int)} (h : WrSS w B v xss) (hw : Keeps B hi w w') (hh : w.heap.size ≤ hi) : WrSS w' B v xss := by
  obtain ⟨a, c, hv, hc, ho⟩ := h
  refine ⟨a, c, hv, hc, fun hne => ?_⟩
  obtain ⟨g, us, ha, hM⟩ := ho hne
  exact ⟨g, us, ha, hM.keeps hw hh⟩

/-- The slice address a reads as the bytes bs. -/
def RdY (w : World) (a : Option Addr) (bs : List Int) : Prop := bs ≠ [] → ∃ b off, a = some ⟨b, off, none⟩ ∧ ∀ (j : Nat) (x : Int), bs[j]? = some x → w.cell? ⟨b, off + j, none⟩ = some (.int .u8 x)
set_option maxRecDepth 100000 in
theorem RdY.ext {w w' : World} {a : Option Addr} {bs : List Int} (h : RdY w a bs) (hw : Ext w w') : RdY w' a bs := fun hne => by
  obtain ⟨b, off, ha, hj⟩ := h hne
  exact ⟨b, off, ha, fun j x hx => hw.keep (hj j x hx)⟩
set_option maxRecDepth 100000 in
theorem RdY.at_ {w : World} {a : Option Addr} {bs : List Int} (h : RdY w a bs) {k : Nat} {x : Int} (hx : bs[k]? = some x) : ∃ b off, a = some ⟨b, off, none⟩ ∧ w.cell? ⟨b, off + k, none⟩ = some (.int .u8 x) := by
  obtain ⟨b, off, ha, hj⟩ := h (ne_of_at hx)
  exact ⟨b, off, ha, hj k x hx⟩
set_option maxRecDepth 100000 in
theorem RdY.lt {w : World} {b off : Nat} {bs : List Int} (h : RdY w (some ⟨b, off, none⟩) bs) (hne : bs ≠ []) : b < w.heap.size := by
  obtain ⟨x, hx⟩ := at_of_lt (xs := bs) (k := 0) (List.length_pos_iff.2 hne)
  obtain ⟨b', off', e, hc⟩ := h.at_ hx
  injection e with e
  injection e with e
  subst e
  exact World.block_lt_of_cell? w _ hc
set_option maxRecDepth 100000 in
theorem Only.rdY {g : Nat} {w w' : World} (h : Only g w w') {a : Option Addr} {bs : List Int} (hr : RdY w a bs) (hne : ∀ b off, a = some ⟨b, off, none⟩ → bs ≠ [] → b < g) : RdY w' a bs := fun hx => by
  obtain ⟨b, off, rfl, hc⟩ := hr hx
  exact ⟨b, off, rfl, fun j x hj => h.keep (by have := hne b off rfl hx; show b ≠ g; omega) (hc j x hj)⟩
def curF (a : Option Addr) (n c : Nat) (i h : Int) (o : Nat) : Value := if o = 0 then .slice a n c else if o = 1 then .int .i64 i else if o = 2 then .int .i64 h else undef
/-- Block g is such a source. -/
def Cur (w : World) (g : Nat) : Prop := ∃ (a : Option Addr) (bs : List Int) (c i : Nat) (h : Int), BlkF w g 3 (curF a bs.length c i h) ∧ i ≤ bs.length ∧ bs.length ≤ 1048576 ∧ RdY w a bs ∧ ∀ b off, a = some ⟨b, off, none⟩ → bs ≠ [] → b < g
set_option maxRecDepth 100000 in
theorem Cur.ext {w w' : World} {g : Nat} (h : Cur w g) (hw : Ext w w') : Cur w' g := by
  obtain ⟨a, bs, c, i, k, hB, h1, h2, hR, h3⟩ := h
  exact ⟨a, bs, c, i, k, hB.ext hw, h1, h2, hR.ext hw, h3⟩
set_option maxRecDepth 100000 in
theorem Cur.lt {w : World} {g : Nat} (h : Cur w g) : g < w.heap.size := by
  obtain ⟨a, bs, c, i, k, hB, _⟩ := h
  exact hB.lt
set_option maxRecDepth 100000 in
theorem Cur.only {w w' : World} {g g' : Nat} (h : Cur w g) (hg : g < g') (hw : Only g' w w') : Cur w' g := by
  obtain ⟨a, bs, c, i, k, hB, h1, h2, hR, h3⟩ := h
  exact ⟨a, bs, c, i, k, hw.blk hB (by omega), h1, h2, hw.rdY hR (fun b off ha hne => by have := h3 b off ha hne; omega), h3⟩
set_option maxRecDepth 100000 in
theorem and255 (x : Int) : 0 ≤ bits BinOp.and IntKind.i64 x 255 ∧ bits BinOp.and IntKind.i64 x 255 ≤ 255 := by
  have h1 : bits BinOp.and IntKind.i64 x 255 = IntKind.i64.wrap ((BitVec.ofInt 64 x &&& BitVec.ofInt 64 255).toNat : Int) := rfl
  have h2 : (BitVec.ofInt 64 x &&& BitVec.ofInt 64 255).toNat ≤ 255 := by
    rw [BitVec.toNat_and]
    exact Nat.le_trans Nat.and_le_right (by decide)
  rw [h1, IntWalk.i64_in _ (by omega)]
  omega

set_option maxRecDepth 100000 in
set_option maxHeartbeats 1000000 in
theorem byte_spec (w : World) (g : Nat) (hC : Cur w g) :
    Calls Tryz.prog 20 #[.pointer (some ⟨g, 0, none⟩)] w fun e w' => ∃ x : Int, e = .returned (.int .i64 x) ∧ (0 ≤ x ∧ x ≤ 255) ∧ Cur w' g ∧ Only g w w' := by
  obtain ⟨a, bs, c, i, h, hB, hi, hl, hR, hb⟩ := hC
  have c0 : w.cell? ⟨g, 0, none⟩ = some (.slice a bs.length c) := hB.cell 0 (by omega)
  have c1 : w.cell? ⟨g, 1, none⟩ = some (.int .i64 i) := hB.cell 1 (by omega)
  have c2 : w.cell? ⟨g, 2, none⟩ = some (.int .i64 h) := hB.cell 2 (by omega)
  have z2 := hB.fr 2
  have HB := hide hB
  have HRB := hide hb
  have HRY := hide hR
  clear hB hb hR
  go_enter Tryz.func20, Tryz.ntmps20
  go_wp2
  have hO : Only g w (w.setCell ⟨g, 2, none⟩ (.int .i64 (wrap64 (wrap64 (h * 6364136223846793005) + 1442695040888963407)))) := (Only.refl g w).setCell 2 _
  have hB1 := (HB.out.set 2 (by omega) (.int .i64 (wrap64 (wrap64 (h * 6364136223846793005) + 1442695040888963407)))).congr (f' := curF a bs.length c i (wrap64 (wrap64 (h * 6364136223846793005) + 1442695040888963407))) (fun o ho => by
    match o, ho with
    | 0, _ => rfl
    | 1, _ => rfl
    | 2, _ => rfl)
  generalize wrap64 (wrap64 (h * 6364136223846793005) + 1442695040888963407) = h2 at hO hB1 ⊢
  generalize w.setCell ⟨g, 2, none⟩ (.int .i64 h2) = W at hO hB1 ⊢
  have hR1 := hO.rdY HRY.out HRB.out
  have c0 : W.cell? ⟨g, 0, none⟩ = some (.slice a bs.length c) := hB1.cell 0 (by omega)
  have c1 : W.cell? ⟨g, 1, none⟩ = some (.int .i64 i) := hB1.cell 1 (by omega)
  have c2 : W.cell? ⟨g, 2, none⟩ = some (.int .i64 h2) := hB1.cell 2 (by omega)
  have HB1 := hide hB1
  have HR1 := hide hR1
  clear hB1 hR1 HB HRY z2
  refine wp_region_X (by kernel_rfl) (by kernel_rfl) ?_
  repeat' (refine wpX_stepQ (fun K hK => ?_)
           go_simp
           try (rw [if_neg (by intro h; simp [undef] at h)])
           try split
           all_goals
             first
             | (refine hK _ ?_
                clear hK K)
             | (apply Exists.intro
                refine ⟨fun wq hwq => ?_, hK _ ?_⟩
                · have hcq := hwq.cellS
                  go_simp
                  first
                  | exact ⟨Ext.refl _, rfl⟩
                clear hK K))
  refine wpX_nil (fun wz hwz => ?_)
  have c0 := hwz.keep c0
  have c1 := hwz.keep c1
  have hO := hO.trans (Only.of_ext hwz)
  have HB1 := hide (HB1.out.ext hwz)
  have HR1 := hide (HR1.out.ext hwz)
  clear hwz
  have hx := and255 (bits BinOp.xor IntKind.i64 (h2 / 8589934592) (h2 / 35184372088832))
  generalize bits BinOp.and IntKind.i64 (bits BinOp.xor IntKind.i64 (h2 / 8589934592) (h2 / 35184372088832)) 255 = X at hx ⊢
  obtain ⟨wa, hwa⟩ : ∃ wa : World, wa = wz := ⟨_, rfl⟩
  subst hwa
  by_cases hit : i < bs.length
  · obtain ⟨y, hy⟩ := at_of_lt hit
    obtain ⟨b, off, rfl, d0⟩ := HR1.out.at_ hy
    clear hy
    go_wp2
    refine wp_region_X (by kernel_rfl) (by kernel_rfl) ?_
    repeat' (refine wpX_stepQ (fun K hK => ?_)
             go_simp
             try (rw [if_neg (by intro h; simp [undef] at h)])
             try split
             all_goals
               first
               | (refine hK _ ?_
                  clear hK K)
               | (apply Exists.intro
                  refine ⟨fun wq hwq => ?_, hK _ ?_⟩
                  · have hcq := hwq.cellS
                    go_simp
                    first
                    | exact ⟨Ext.refl _, rfl⟩
                  clear hK K))
    refine wpX_nil (fun wz hwz => ?_)
    have c0 := hwz.keep c0
    have c1 := hwz.keep c1
    have d0 := hwz.keep d0
    have hO := hO.trans (Only.of_ext hwz)
    have HB1 := hide (HB1.out.ext hwz)
    have HR1 := hide (HR1.out.ext hwz)
    clear hwz
    obtain ⟨wc, hwc⟩ : ∃ wc : World, wc = wz := ⟨_, rfl⟩
    subst hwc
    go_wp2
    refine wp_region_X (by kernel_rfl) (by kernel_rfl) ?_
    repeat' (refine wpX_stepQ (fun K hK => ?_)
             go_simp
             try (rw [if_neg (by intro h; simp [undef] at h)])
             try split
             all_goals
               first
               | (refine hK _ ?_
                  clear hK K)
               | (apply Exists.intro
                  refine ⟨fun wq hwq => ?_, hK _ ?_⟩
                  · have hcq := hwq.cellS
                    go_simp
                    first
                    | exact ⟨Ext.refl _, rfl⟩
                  clear hK K))
    refine wpX_nil (fun wz hwz => ?_)
    have c1 := hwz.keep c1
    have hO := hO.trans (Only.of_ext hwz)
    have hBz := HB1.out.ext hwz
    have z1 := hBz.fr 1
    have HB2 := hide hBz
    have HR2 := hide (HR1.out.ext hwz)
    have y1 : wrap64 ((i : Int) + 1) = ((i + 1 : Nat) : Int) := by rw [IntWalk.wrap64_in _ (by omega)]; omega
    clear hwz hBz
    have hx2 := and255 (IntKind.i64.wrap (X + IntKind.i64.wrap y))
    generalize bits BinOp.and IntKind.i64 (IntKind.i64.wrap (X + IntKind.i64.wrap y)) 255 = Z at hx2 ⊢
    go_wp2
    go_ret
    refine ⟨Z, rfl, hx2, ⟨some ⟨b, off, none⟩, bs, c, i + 1, h2, (HB2.out.set 1 (by omega) _).congr (fun o ho => ?_), by omega, hl, ((Only.refl g wz).setCell 1 _).rdY HR2.out HRB.out, HRB.out⟩, hO.setCell 1 _⟩
    match o, ho with
    | 0, _ => rfl
    | 1, _ => rfl
    | 2, _ => rfl
  · go_wp2
    refine wp_region_X (by kernel_rfl) (by kernel_rfl) ?_
    repeat' (refine wpX_stepQ (fun K hK => ?_)
             go_simp
             try (rw [if_neg (by intro h; simp [undef] at h)])
             try split
             all_goals
               first
               | (refine hK _ ?_
                  clear hK K)
               | (apply Exists.intro
                  refine ⟨fun wq hwq => ?_, hK _ ?_⟩
                  · have hcq := hwq.cellS
                    go_simp
                    first
                    | exact ⟨Ext.refl _, rfl⟩
                  clear hK K))
    refine wpX_nil (fun wz hwz => ?_)
    go_wp2
    go_ret
    exact ⟨X, rfl, hx, ⟨a, bs, c, i, h2, HB1.out.ext hwz, hi, hl, HR1.out.ext hwz, HRB.out⟩, hO.trans (Only.of_ext hwz)⟩

set_option maxRecDepth 100000 in
theorem tmod_bd {x : Int} {n : Nat} (h0 : 0 ≤ x) (hn : 1 ≤ n) : 0 ≤ x.tmod n ∧ x.tmod n < n := by
  obtain ⟨k, rfl⟩ : ∃ k : Nat, x = k := ⟨x.toNat, by omega⟩
  have h : ((k : Int).tmod (n : Int)) = ((k % n : Nat) : Int) := rfl
  have h2 : k % n < n := Nat.mod_lt k (by omega)
  rw [h]; omega

set_option maxRecDepth 100000 in
set_option maxHeartbeats 1000000 in
theorem below_spec (w : World) (g n : Nat) (hC : Cur w g) (n1 : 1 ≤ n) (n2 : n ≤ 256) :
    Calls Tryz.prog 39 #[.pointer (some ⟨g, 0, none⟩), .int .i64 n] w fun e w' => ∃ x : Nat, e = .returned (.int .i64 x) ∧ x < n ∧ Cur w' g ∧ Only g w w' := by
  have i1 : ¬ (n : Int) ≤ 0 := by omega
  have i2 : (n : Int) ≤ 256 := by omega
  have i3 : n ≤ 256 := by omega
  have i4 : (n : Int) ≠ 0 := by omega
  have i5 : n ≠ 0 := by omega
  go_enter Tryz.func39, Tryz.ntmps39
  go_wp2_with fail
  refine (byte_spec _ g hC).mono ?_
  rintro e w1 ⟨x, rfl, hx, hC1, hO1⟩
  obtain ⟨m, hm⟩ : ∃ m : Nat, x.tmod n = m := ⟨(x.tmod n).toNat, by have := tmod_bd (n := n) hx.1 n1; omega⟩
  have hmn : m < n := by have := tmod_bd (n := n) hx.1 n1; omega
  go_wp2
  go_ret
  exact ⟨m, rfl, hmn, hC1, hO1⟩

set_option maxRecDepth 100000 in
theorem cur_new (w : World) (a : Option Addr) (c : Nat) (x : Int) (bs : List Int) (hR : RdY w a bs) (hl : bs.length ≤ 1048576) : Cur (w.alloc (.cells #[.slice a bs.length c, .int .i64 0, .int .i64 x] 67)) w.heap.size := by
  refine ⟨a, bs, c, 0, x, (BlkF.new w #[.slice a bs.length c, .int .i64 0, .int .i64 x] 67).congr (fun o ho => ?_), Nat.zero_le _, hl, hR.ext (Ext.new _ _), fun b off ha hne => ?_⟩
  · match o, ho with
    | 0, _ => rfl
    | 1, _ => rfl
    | 2, _ => rfl
  · subst ha
    exact hR.lt hne

set_option maxRecDepth 100000 in
set_option maxHeartbeats 1000000 in
theorem new_spec (w : World) (a : Option Addr) (c : Nat) (bs : List Int) (hR : RdY w a bs) (hl : bs.length ≤ 1048576) :
    Calls Tryz.prog 38 #[.slice a bs.length c] w fun e w' => ∃ g, e = .returned (.pointer (some ⟨g, 0, none⟩)) ∧ w.heap.size ≤ g ∧ Cur w' g ∧ Ext w w' := by
  have y0 : wrap64 (2139 + (bs.length : Int)) = 2139 + (bs.length : Int) := IntWalk.wrap64_in _ (by omega)
  go_enter Tryz.func38, Tryz.ntmps38
  go_wp2_with fail
  go_loopw [3, 4] (fun h i wr => ∃ (k : Nat) (x : Int), i = .int .i64 k ∧ h = .int .i64 x ∧ k ≤ bs.length ∧ wr = w) (fun _ i _ => bs.length - (intOf i).toNat)
  case atStart => exact ⟨0, _, rfl, rfl, Nat.zero_le _, rfl⟩
  case round =>
    obtain ⟨k, x, rfl, rfl, hk, rfl⟩ := hrel
    by_cases hkt : k < bs.length ∧ k < 4000
    · obtain ⟨k1, k2⟩ := hkt
      obtain ⟨y, hy⟩ := at_of_lt k1
      obtain ⟨b, off, rfl, c0⟩ := hR.at_ hy
      have k3 : (k : Int) < 4000 := by omega
      clear hy
      go_wp2
      exact ⟨⟨k + 1, _, by go_num, rfl, by omega, trivial⟩, by simp [intOf]; omega⟩
    · by_cases k1 : k < bs.length
      · have k2 : ¬ k < 4000 := fun h => hkt ⟨k1, h⟩
        have k3 : ¬ (k : Int) < 4000 := by omega
        clear hkt
        go_wp2
        go_ret
        exact ⟨wr.heap.size, rfl, Nat.le_refl _, cur_new wr a c x bs hR hl, Ext.new _ _⟩
      · clear hkt
        go_wp2
        go_ret
        exact ⟨wr.heap.size, rfl, Nat.le_refl _, cur_new wr a c x bs hR hl, Ext.new _ _⟩

set_option maxRecDepth 100000 in
/-- What happened in memory: old blocks are as they were but for the source. -/
theorem Only.fresh {g k : Nat} {a b c : World} (h : Only g a b) (hg : b.grownBy c (some k)) (hk : a.heap.size ≤ k) : Only g a c :=
  ⟨hg.os.trans h.os, hg.tape.trans h.tape, hg.output.trans h.output, Nat.le_trans h.size hg.size, fun i hi hne => (hg.block i (Nat.lt_of_lt_of_le hi h.size) (fun e => by injection e with e; omega)).trans (h.block i hi hne)⟩

set_option maxRecDepth 100000 in
set_option maxHeartbeats 1000000 in
theorem lnew_spec (w : World) (a : Option Addr) (c n : Nat) (bs : List Int) (hR : RdY w a bs) (hl : bs.length ≤ 1048576) (hn : n ≤ 1000) :
    Calls Tryz.prog 19 #[.slice a bs.length c, .int .i64 n] w fun e w' => ∃ g, e = .returned (.pointer (some ⟨g, 0, none⟩)) ∧ w.heap.size ≤ g ∧ Cur w' g ∧ Ext w w' := by
  go_enter Tryz.func19, Tryz.ntmps19
  go_wp2_with fail
  refine (new_spec w a c bs hR hl).mono ?_
  rintro e w1 ⟨g, rfl, hg, hC, hw1⟩
  go_wp2_with fail
  go_loopw [6] (fun i wr => ∃ k : Nat, i = .int .i64 k ∧ k ≤ n ∧ Cur wr g ∧ Ext w wr) (fun i _ => n - (intOf i).toNat)
  case atStart => exact ⟨0, rfl, Nat.zero_le _, hC, hw1⟩
  case round =>
    clear hC hw1
    obtain ⟨k, rfl, hk, hC, hwr⟩ := hrel
    by_cases hkt : k < n
    · have HC := hide hC
      clear hC
      go_wp2_with fail
      refine (byte_spec _ g HC.out).mono ?_
      rintro e w2 ⟨x, rfl, hx, hC2, hO2⟩
      go_wp2
      exact ⟨⟨k + 1, by go_num, by omega, hC2, Only.ext hwr hO2 hg⟩, by simp [intOf]; omega⟩
    · have HC := hide hC
      clear hC
      go_wp2
      go_ret
      exact ⟨g, rfl, hg, HC.out, hwr⟩

set_option maxRecDepth 100000 in
set_option maxHeartbeats 1000000 in
theorem numY_spec (w : World) (a : Option Addr) (c n : Nat) (bs : List Int) (hR : RdY w a bs) (hl : bs.length ≤ 1048576) (hn : n ≤ 1000) :
    Calls Tryz.prog 4 #[.slice a bs.length c, .int .i64 n] w fun e w' => ∃ x : Nat, e = .returned (.int .i64 x) ∧ x ≤ 65536 ∧ Ext w w' := by
  go_enter Tryz.func4, Tryz.ntmps4
  go_wp2_with fail
  refine (lnew_spec w a c n bs hR hl hn).mono ?_
  rintro e w1 ⟨g, rfl, hg, hC, hw1⟩
  go_wp2_with fail
  refine (byte_spec _ g hC).mono ?_
  rintro e w2 ⟨x, rfl, hx, hC2, hO2⟩
  have hw2 := Only.ext hw1 hO2 hg
  go_wp2_with fail
  refine (byte_spec _ g hC2).mono ?_
  rintro e w3 ⟨y, rfl, hy, hC3, hO3⟩
  have y1 : wrap64 (x * 256) = x * 256 := IntWalk.wrap64_in _ (by omega)
  have y2 : wrap64 (x * 256 + y) = x * 256 + y := IntWalk.wrap64_in _ (by omega)
  go_wp2
  go_ret
  exact ⟨(x * 256 + y).toNat, ret_int (by omega), by omega, Only.ext hw2 hO3 hg⟩

open Go.ChangeShapes Go.WideShapes Go.ChangeAt Go.RowKit Go.Joins Go.Deep

section
variable {H : Type} {enc : TypeId × Value → H} {W : World} {base : Nat} {spare : Nat → Bool} {held : Bool} {b0 : Nat}
set_option maxRecDepth 100000 in
theorem openY_trod {fuel : Nat} {v : Value} {x : DataW H × List MemPlace} (h : DataW.trod enc Tryz.prog W base spare held fuel 22 [v] = some x) :
    ∃ (a : Option Addr) (xs : List Int) (c : Nat), v = .slice a xs.length c ∧ RdY W a xs ∧ xs.length ≤ c ∧ xs.length ≤ maxLen := by
  rcases open_ints Tryz.underlying22 Tryz.underlying5 (by kernel_rfl) h with ⟨e1, _⟩ | ⟨a, len, cap, zs, e1, _, hl, hm, hzl, _, hc, _⟩
  · simp at e1
    subst e1
    exact ⟨none, [], 0, rfl, fun h => absurd rfl h, Nat.le_refl _, by simp⟩
  · simp at e1
    subst e1
    have hle : len ≤ zs.length := by rw [hzl]; split <;> omega
    have htl : (zs.take len).length = len := by simp; omega
    refine ⟨some a, zs.take len, cap, by rw [htl], fun hne => ?_, by omega, by omega⟩
    have hpos : 0 < len := by have := List.length_pos_iff.2 hne; omega
    have h0 := hc 0 (by omega)
    obtain ⟨b, off, spot⟩ := a
    have hspot : spot = none := by simpa [Addr.add] using World.cell?_spot h0
    subst hspot
    refine ⟨b, off, rfl, fun j y hy => ?_⟩
    have hj := lt_of_at hy
    rw [htl] at hj
    have h2 := hc j (by omega)
    rw [addr_add_none] at h2
    rw [h2]
    rw [List.getElem?_take_of_lt hj] at hy
    simp [List.getD, hy]

set_option maxRecDepth 100000 in
theorem openY {v : Value} {d : DataW H} {p : List MemPlace} (hv : Value.okWide Tryz.prog W .any b0 22 v) (h : DataW.Trod enc Tryz.prog W base spare held 22 v d p) :
    ∃ (a : Option Addr) (bs : List Int) (c : Nat), v = .slice a bs.length c ∧ RdY W a bs ∧ bs.length ≤ maxLen := by
  obtain ⟨m, hm⟩ := h
  obtain ⟨_, _, _, rfl⟩ := okWide_slice Tryz.underlying22 hv
  obtain ⟨a, xs, c, hv, hR, _, hl⟩ := openY_trod hm
  exact ⟨a, xs, c, hv, hR, hl⟩
end

set_option maxRecDepth 100000 in
set_option maxHeartbeats 1000000 in
theorem indexFuncI (K : Nat) (fst cap : Array Value) (p : Int → Bool) (w : World) (a : Option Addr) (c : Nat) (xs : List Int) (hR : RdI w a xs) (hl : xs.length ≤ 2000000) (hK : Enters Tryz.prog K)
    (hf : ∀ (x : Int) (w' : World), x ∈ xs → Ext w w' → Calls Tryz.prog K (fst.push (.int .i64 x) ++ cap) w' fun e w'' => e = .returned (.bool (p x)) ∧ Ext w' w'') :
    Calls Tryz.prog 92 #[.slice a xs.length c, .func (.func K) fst cap] w fun e w' => e = .returned (.int .i64 (findI p xs)) ∧ Ext w w' := by
  unfold Enters at hK
  have HF := hide hf
  clear hf
  go_enter Tryz.func92, Tryz.ntmps92
  go_wp2_with fail
  go_loopw [5, 8] (fun _ i wr => ∃ k : Nat, k ≤ xs.length ∧ i = .int .i64 k ∧ Hid ((xs.take k).all (fun x => !p x) = true) ∧ Ext w wr) (fun _ i _ => xs.length - (intOf i).toNat)
  case atStart => exact ⟨0, Nat.zero_le _, rfl, rfl, Ext.refl _⟩
  case round =>
    obtain ⟨k, hk, rfl, hall, hwr⟩ := hrel
    by_cases hlt : k < xs.length
    · obtain ⟨x, hx⟩ := at_of_lt hlt
      obtain ⟨b, off, rfl, c0⟩ := (hR.ext hwr).at_ hx
      have HX := hide hx
      clear hx
      cases hp : p x
      all_goals
        go_wp2_with fail
        refine (HF.out x wr (List.mem_of_getElem? HX.out) hwr).mono ?_
        rintro e w1 ⟨rfl, hw1⟩
        go_wp2
      · exact ⟨⟨k + 1, by omega, by go_num, (all_take HX.out hall.out).trans (by simp [hp]), hwr.trans hw1⟩, by simp [intOf]; omega⟩
      · go_ret
        exact ⟨ret_int (findI_some HX.out hall.out hp).symm, hwr.trans hw1⟩
    · go_wp2
      go_ret
      exact ⟨ret_int (findI_none (all_whole (by omega) hall.out)).symm, hwr⟩

set_option maxRecDepth 100000 in
set_option maxHeartbeats 1000000 in
theorem containsFuncI (K : Nat) (fst cap : Array Value) (p : Int → Bool) (w : World) (a : Option Addr) (c : Nat) (xs : List Int) (hR : RdI w a xs) (hl : xs.length ≤ 2000000) (hK : Enters Tryz.prog K)
    (hf : ∀ (x : Int) (w' : World), x ∈ xs → Ext w w' → Calls Tryz.prog K (fst.push (.int .i64 x) ++ cap) w' fun e w'' => e = .returned (.bool (p x)) ∧ Ext w' w'') :
    Calls Tryz.prog 114 #[.slice a xs.length c, .func (.func K) fst cap] w fun e w' => e = .returned (.bool (xs.any p)) ∧ Ext w w' := by
  have H := hide (indexFuncI K fst cap p w a c xs hR hl hK hf)
  clear hf
  go_enter Tryz.func114, Tryz.ntmps114
  go_wp2_with fail
  refine H.out.mono ?_
  rintro e w1 ⟨rfl, hw1⟩
  go_wp2
  go_ret
  exact ⟨ret_bool (findI_nonneg p xs), hw1⟩

set_option maxRecDepth 100000 in
set_option maxHeartbeats 1000000 in
theorem allInOne (w : World) (g1 g2 : Nat) (x lo hi : Int) (h1 : w.cell? ⟨g1, 0, none⟩ = some (.int .i64 lo)) (h2 : w.cell? ⟨g2, 0, none⟩ = some (.int .i64 hi)) :
    Calls Tryz.prog 142 #[.int .i64 x, .pointer (some ⟨g1, 0, none⟩), .pointer (some ⟨g2, 0, none⟩)] w fun e w' => e = .returned (.bool (!inR x lo hi)) ∧ Ext w w' := by
  go_enter Tryz.func142, Tryz.ntmps142
  go_wp2_with (go_at_call 26; refine (in_impl _ _ _ _).mono ?_; rintro e w1 ⟨rfl, hw1⟩)
  go_ret
  exact ⟨rfl, (by repeat (first | exact Ext.refl _ | assumption | refine Ext.alloc ?_ _ | refine Ext.drew ?_ | refine Ext.trans ?_ (by assumption)))⟩

set_option maxRecDepth 100000 in
set_option maxHeartbeats 1000000 in
theorem allIn_impl (w : World) (a : Option Addr) (c : Nat) (xs : List Int) (lo hi : Int) (hR : RdI w a xs) (hl : xs.length ≤ 2000000) :
    Calls Tryz.prog 128 #[.slice a xs.length c, .int .i64 lo, .int .i64 hi] w fun e w' => e = .returned (.bool (xs.all (fun x => inR x lo hi))) ∧ Ext w w' := by
  have hs1 : (w.alloc (.cells #[.int .i64 lo] 3)).heap.size = w.heap.size + 1 := by simp
  have p0 := Ext.keep (Ext.new _ (.cells #[.int .i64 hi] 3)) (new0 w (.int .i64 lo) [] 3)
  have p1 := new0 (w.alloc (.cells #[.int .i64 lo] 3)) (.int .i64 hi) [] 3
  rw [hs1] at p1
  clear hs1
  go_enter Tryz.func128, Tryz.ntmps128
  go_wp2_with fail
  refine (containsFuncI 142 #[] #[.pointer (some ⟨w.heap.size, 0, none⟩), .pointer (some ⟨w.heap.size + 1, 0, none⟩)] (fun x => !inR x lo hi) _ a c xs (hR.ext (by repeat (first | exact Ext.refl _ | assumption | refine Ext.alloc ?_ _ | refine Ext.drew ?_ | refine Ext.trans ?_ (by assumption)))) hl Tryz.call142
    (fun x w' _ hw' => allInOne w' _ _ x lo hi (hw'.keep p0) (hw'.keep p1))).mono ?_
  rintro e w1 ⟨rfl, hw1⟩
  go_wp2
  go_ret
  exact ⟨ret_bool (by rw [any_not]; simp), (by repeat (first | exact Ext.refl _ | assumption | refine Ext.alloc ?_ _ | refine Ext.drew ?_ | refine Ext.trans ?_ (by assumption)))⟩

def placeI (xs : List Int) (a : Int) : Int := findI (fun y => a == y) xs
def prefB (xs : List Int) (a b : Int) : Bool := decide (0 ≤ placeI xs a) && (decide (0 ≤ placeI xs b) && decide (placeI xs a < placeI xs b))
set_option maxRecDepth 100000 in
theorem placeI_lt (xs : List Int) (a : Int) : -1 ≤ placeI xs a ∧ placeI xs a < xs.length + 1 := by
  unfold placeI findI
  cases h : xs.findIdx? (fun y => a == y) with
  | none => simp; omega
  | some i =>
    rw [List.findIdx?_eq_some_iff_getElem] at h
    obtain ⟨hk, _⟩ := h
    simp; omega

set_option maxRecDepth 100000 in
set_option maxHeartbeats 1000000 in
theorem place_impl (w : World) (a : Option Addr) (c : Nat) (xs : List Int) (x : Int) (hR : RdI w a xs) (hl : xs.length ≤ 2000000) :
    Calls Tryz.prog 31 #[.slice a xs.length c, .int .i64 x] w fun e w' => e = .returned (.int .i64 (placeI xs x)) ∧ Ext w w' := by
  go_enter Tryz.func31, Tryz.ntmps31
  go_wp2_with (go_at_call 60; refine (indexI _ _ _ _ _ hR hl).mono ?_; rintro e w1 ⟨rfl, hw1⟩)
  go_ret
  exact ⟨rfl, hw1⟩

set_option maxRecDepth 100000 in
set_option maxHeartbeats 1000000 in
theorem pref_impl (w : World) (a : Option Addr) (c : Nat) (xs : List Int) (x y : Int) (hR : RdI w a xs) (hl : xs.length ≤ 2000000) :
    Calls Tryz.prog 10 #[.slice a xs.length c, .int .i64 x, .int .i64 y] w fun e w' => e = .returned (.bool (prefB xs x y)) ∧ Ext w w' := by
  by_cases h1 : 0 ≤ placeI xs x <;> by_cases h2 : 0 ≤ placeI xs y <;> by_cases h3 : placeI xs x < placeI xs y
  all_goals
    go_enter Tryz.func10, Tryz.ntmps10
    go_wp2_with (go_at_call 31; refine (place_impl _ _ _ _ _ (hR.ext (by repeat (first | exact Ext.refl _ | assumption | refine Ext.alloc ?_ _ | refine Ext.drew ?_ | refine Ext.trans ?_ (by assumption)))) hl).mono ?_; rintro e w1 ⟨rfl, hw1⟩)
    all_goals go_ret
    all_goals exact ⟨ret_bool (by simp [prefB, h1, h2, h3]), (by repeat (first | exact Ext.refl _ | assumption | refine Ext.alloc ?_ _ | refine Ext.drew ?_ | refine Ext.trans ?_ (by assumption)))⟩

/-- The weight of the votes whose ranking has a property. -/
def sumV (p : List Int → Bool) (vs : List Vt) : Int := ((vs.filter (fun x => p x.1)).map Prod.snd).sum
set_option maxRecDepth 100000 in
theorem sumV_at {p : List Int → Bool} {vs : List Vt} {k : Nat} {x : Vt} (hx : vs[k]? = some x) : sumV p (vs.take (k + 1)) = sumV p (vs.take k) + if p x.1 then x.2 else 0 := by
  rw [take_at hx]
  unfold sumV
  rw [List.filter_append, List.map_append, List.sum_append]
  cases h : p x.1 <;> simp [h]
def SmallV (sz : Int) (vs : List Vt) : Prop := vs.length ≤ 24 ∧ ∀ x ∈ vs, rkOk sz x.1 = true ∧ 1 ≤ x.2 ∧ x.2 ≤ 1000
set_option maxRecDepth 100000 in
theorem prof_size {sz : Int} {vs : List Vt} (h : profOk sz vs = true) : 1 ≤ sz ∧ sz ≤ 5 := by
  simp only [profOk, Bool.and_eq_true] at h; exact inR_iff.1 h.1
set_option maxRecDepth 100000 in
theorem prof_small {sz : Int} {vs : List Vt} (h : profOk sz vs = true) : SmallV sz vs := by
  simp only [profOk, Bool.and_eq_true, decide_eq_true_eq] at h
  refine ⟨h.2.1, fun x hx => ?_⟩
  have h2 := List.all_eq_true.1 h.2.2 x hx
  simp only [vtOk, Bool.and_eq_true] at h2
  have h4 := inR_iff.1 h2.2
  exact ⟨h2.1, h4.1, h4.2⟩
set_option maxRecDepth 100000 in
theorem rk_len {m : Int} {xs : List Int} (h : rkOk m xs = true) : (xs.length : Int) = m ∧ xs.length ≤ 5 := by
  simp only [rkOk, Bool.and_eq_true, decide_eq_true_eq] at h
  have := inR_iff.1 h.1
  omega
set_option maxRecDepth 100000 in
theorem rk_mem {m : Int} {xs : List Int} (h : rkOk m xs = true) {x : Int} (hx : x ∈ xs) : 0 ≤ x ∧ x ≤ m - 1 := by
  simp only [rkOk, Bool.and_eq_true, decide_eq_true_eq] at h
  exact inR_iff.1 (List.all_eq_true.1 h.2.2.1 x hx)
set_option maxRecDepth 100000 in
theorem rk_nodup {m : Int} {xs : List Int} (h : rkOk m xs = true) : xs.Nodup := by
  simp only [rkOk, Bool.and_eq_true, decide_eq_true_eq] at h
  exact h.2.2.2
set_option maxRecDepth 100000 in
theorem sumV_bd {p : List Int → Bool} {sz : Int} {vs : List Vt} (h : SmallV sz vs) : ∀ k : Nat, k ≤ vs.length → 0 ≤ sumV p (vs.take k) ∧ sumV p (vs.take k) ≤ 1000 * k
  | 0, _ => by simp [sumV]
  | k + 1, hk => by
    obtain ⟨x, hx⟩ := at_of_lt (xs := vs) (k := k) (by omega)
    have h1 := sumV_bd h k (by omega) (p := p)
    have h2 := h.2 x (List.mem_of_getElem? hx)
    rw [sumV_at hx]
    split <;> omega
set_option maxRecDepth 100000 in
theorem sumV_bd' {p : List Int → Bool} {sz : Int} {vs : List Vt} (h : SmallV sz vs) : 0 ≤ sumV p vs ∧ sumV p vs ≤ 24000 := by
  have h1 := sumV_bd h vs.length (Nat.le_refl _) (p := p)
  rw [List.take_length] at h1
  have := h.1
  omega
def pairV (vs : List Vt) (a b : Int) : Int := sumV (fun r => prefB r a b) vs
def marginV (vs : List Vt) (a b : Int) : Int := pairV vs a b - pairV vs b a
def beatsV (vs : List Vt) (a b : Int) : Bool := decide (pairV vs b a < pairV vs a b)

set_option maxRecDepth 100000 in
set_option maxHeartbeats 1000000 in
theorem votersV (K : Nat) (fst cap : Array Value) (p : List Int → Bool) (w : World) (sz : Int) (a : Option Addr) (c : Nat) (vs : List Vt) (hR : RdV w a vs) (hS : SmallV sz vs) (hK : Enters Tryz.prog K)
    (hf : ∀ (x : Vt) (a' : Option Addr) (c' : Nat) (w' : World), x ∈ vs → Ext w w' → RdI w' a' x.1 → x.1.length ≤ c' → Calls Tryz.prog K (fst.push (.slice a' x.1.length c') ++ cap) w' fun e w'' => e = .returned (.bool (p x.1)) ∧ Ext w' w'') :
    Calls Tryz.prog 108 #[.agg #[.int .i64 sz, .slice a vs.length c], .func (.func K) fst cap] w fun e w' => e = .returned (.int .i64 (sumV p vs)) ∧ Ext w w' := by
  unfold Enters at hK
  have HF := hide hf
  clear hf
  have HS := hide hS
  have hl := hS.1
  clear hS
  go_enter Tryz.func108, Tryz.ntmps108
  go_wp2_with fail
  go_loopw [5, 7, 11] (fun s _ i wr => ∃ k : Nat, k ≤ vs.length ∧ i = .int .i64 k ∧ s = .int .i64 (sumV p (vs.take k)) ∧ Ext w wr) (fun _ _ i _ => vs.length - (intOf i).toNat)
  case atStart => exact ⟨0, Nat.zero_le _, rfl, rfl, (by repeat (first | exact Ext.refl _ | assumption | refine Ext.alloc ?_ _ | refine Ext.drew ?_ | refine Ext.trans ?_ (by assumption)))⟩
  case round =>
    obtain ⟨k, hk, rfl, rfl, hwr⟩ := hrel
    obtain ⟨b1, b2⟩ := sumV_bd HS.out k hk (p := p)
    by_cases hlt : k < vs.length
    · obtain ⟨x, hx⟩ := at_of_lt hlt
      obtain ⟨b, off, a', c', rfl, c0, c1, hc', hRx⟩ := (hR.ext hwr).at_ hx
      obtain ⟨_, x1, x2⟩ := HS.out.2 x (List.mem_of_getElem? hx)
      have HX := hide hx
      clear hx
      cases hp : p x.1
      all_goals
        go_wp2_with fail
        refine (HF.out x a' c' _ (List.mem_of_getElem? HX.out) (by repeat (first | exact Ext.refl _ | assumption | refine Ext.alloc ?_ _ | refine Ext.drew ?_ | refine Ext.trans ?_ (by assumption))) (hRx.ext (by repeat (first | exact Ext.refl _ | assumption | refine Ext.alloc ?_ _ | refine Ext.drew ?_ | refine Ext.trans ?_ (by assumption)))) hc').mono ?_
        rintro e w1 ⟨rfl, hw1⟩
        have e1 := hw1.keep (new1 wr _ _ _ _)
        go_wp2
      · exact ⟨⟨k + 1, by omega, by go_num, by rw [sumV_at HX.out, hp]; simp, (by repeat (first | exact Ext.refl _ | assumption | refine Ext.alloc ?_ _ | refine Ext.drew ?_ | refine Ext.trans ?_ (by assumption)))⟩, by simp [intOf]; omega⟩
      · exact ⟨⟨k + 1, by omega, by go_num, by rw [sumV_at HX.out, hp]; simp, (by repeat (first | exact Ext.refl _ | assumption | refine Ext.alloc ?_ _ | refine Ext.drew ?_ | refine Ext.trans ?_ (by assumption)))⟩, by simp [intOf]; omega⟩
    · go_wp2
      go_ret
      exact ⟨ret_int (by rw [List.take_of_length_le (by omega)]), hwr⟩

def hasB (sz a : Int) : Bool := inR a 0 (sz - 1)

set_option maxRecDepth 100000 in
set_option maxHeartbeats 1000000 in
theorem pairF (w : World) (g1 g2 : Nat) (a : Option Addr) (c : Nat) (xs : List Int) (x y : Int) (h1 : w.cell? ⟨g1, 0, none⟩ = some (.int .i64 x)) (h2 : w.cell? ⟨g2, 0, none⟩ = some (.int .i64 y)) (hR : RdI w a xs) (hl : xs.length ≤ 2000000) :
    Calls Tryz.prog 110 #[.slice a xs.length c, .pointer (some ⟨g1, 0, none⟩), .pointer (some ⟨g2, 0, none⟩)] w fun e w' => e = .returned (.bool (prefB xs x y)) ∧ Ext w w' := by
  go_enter Tryz.func110, Tryz.ntmps110
  go_wp2_with (go_at_call 10; refine (pref_impl _ _ _ _ _ _ hR hl).mono ?_; rintro e w1 ⟨rfl, hw1⟩)
  go_ret
  exact ⟨rfl, (by repeat (first | exact Ext.refl _ | assumption | refine Ext.alloc ?_ _ | refine Ext.drew ?_ | refine Ext.trans ?_ (by assumption)))⟩

set_option maxRecDepth 100000 in
set_option maxHeartbeats 1000000 in
theorem pairI_impl (w : World) (sz : Int) (a : Option Addr) (c : Nat) (vs : List Vt) (x y : Int) (hR : RdV w a vs) (hS : SmallV sz vs) :
    Calls Tryz.prog 77 #[.agg #[.int .i64 sz, .slice a vs.length c], .int .i64 x, .int .i64 y] w fun e w' => e = .returned (.int .i64 (pairV vs x y)) ∧ Ext w w' := by
  have HS := hide hS
  clear hS
  go_enter Tryz.func77, Tryz.ntmps77
  go_wp2_with fail
  refine (votersV 110 _ _ (fun r => prefB r x y) _ sz _ _ vs (hR.ext (by repeat (first | exact Ext.refl _ | assumption | refine Ext.alloc ?_ _ | refine Ext.drew ?_ | refine Ext.trans ?_ (by assumption)))) HS.out Tryz.call110 ?_).mono ?_
  · intro v a' c' w' hv hw' hRv hc'
    exact pairF w' _ _ a' c' v.1 x y (hw'.keep (by go_simp)) (hw'.keep (by go_simp)) hRv (by have := (rk_len (HS.out.2 v hv).1).2; omega)
  rintro e w1 ⟨rfl, hw1⟩
  go_wp2
  go_ret
  exact ⟨rfl, (by repeat (first | exact Ext.refl _ | assumption | refine Ext.alloc ?_ _ | refine Ext.drew ?_ | refine Ext.trans ?_ (by assumption)))⟩

def lsP (left : List Int) (x : Int) (r : List Int) : Bool := !(left.any (fun b => prefB r x b))
def fsP (left : List Int) (x : Int) (r : List Int) : Bool := !(left.any (fun b => prefB r b x))

set_option maxRecDepth 100000 in
set_option maxHeartbeats 1000000 in
theorem lastIn (w : World) (g1 g2 : Nat) (a : Option Addr) (c : Nat) (xs : List Int) (x b : Int) (h1 : w.cell? ⟨g1, 0, none⟩ = some (.slice a xs.length c)) (h2 : w.cell? ⟨g2, 0, none⟩ = some (.int .i64 x)) (hR : RdI w a xs) (hl : xs.length ≤ 2000000) :
    Calls Tryz.prog 117 #[.int .i64 b, .pointer (some ⟨g1, 0, none⟩), .pointer (some ⟨g2, 0, none⟩)] w fun e w' => e = .returned (.bool (prefB xs x b)) ∧ Ext w w' := by
  go_enter Tryz.func117, Tryz.ntmps117
  go_wp2_with (go_at_call 10; refine (pref_impl _ _ _ _ _ _ (hR.ext (by repeat (first | exact Ext.refl _ | assumption | refine Ext.alloc ?_ _ | refine Ext.drew ?_ | refine Ext.trans ?_ (by assumption)))) hl).mono ?_; rintro e w1 ⟨rfl, hw1⟩)
  go_ret
  exact ⟨rfl, (by repeat (first | exact Ext.refl _ | assumption | refine Ext.alloc ?_ _ | refine Ext.drew ?_ | refine Ext.trans ?_ (by assumption)))⟩

set_option maxRecDepth 100000 in
set_option maxHeartbeats 1000000 in
theorem lastCl (w : World) (gl ga : Nat) (al a : Option Addr) (cl c : Nat) (left xs : List Int) (x : Int) (h1 : w.cell? ⟨gl, 0, none⟩ = some (.slice al left.length cl)) (h2 : w.cell? ⟨ga, 0, none⟩ = some (.int .i64 x)) (hL : RdI w al left) (hR : RdI w a xs) (hl : xs.length ≤ 2000000) (hll : left.length ≤ 2000000) :
    Calls Tryz.prog 116 #[.slice a xs.length c, .pointer (some ⟨gl, 0, none⟩), .pointer (some ⟨ga, 0, none⟩)] w fun e w' => e = .returned (.bool (lsP left x xs)) ∧ Ext w w' := by
  have p0 := new0 w (.slice a xs.length c) [] 28
  have h1' := Ext.keep (Ext.new w (.cells #[.slice a xs.length c] 28)) h1
  have h2' := Ext.keep (Ext.new w (.cells #[.slice a xs.length c] 28)) h2
  go_enter Tryz.func116, Tryz.ntmps116
  go_wp2_with fail
  refine (containsFuncI 117 #[] #[.pointer (some ⟨w.heap.size, 0, none⟩), .pointer (some ⟨ga, 0, none⟩)] (fun b => prefB xs x b) _ al cl left (hL.ext (by repeat (first | exact Ext.refl _ | assumption | refine Ext.alloc ?_ _ | refine Ext.drew ?_ | refine Ext.trans ?_ (by assumption)))) hll Tryz.call117
    (fun b w' _ hw' => lastIn w' _ _ a c xs x b (hw'.keep p0) (hw'.keep h2') (hR.ext ((Ext.new _ _).trans hw')) hl)).mono ?_
  rintro e w1 ⟨rfl, hw1⟩
  go_wp2
  go_ret
  exact ⟨rfl, (by repeat (first | exact Ext.refl _ | assumption | refine Ext.alloc ?_ _ | refine Ext.drew ?_ | refine Ext.trans ?_ (by assumption)))⟩

set_option maxRecDepth 100000 in
set_option maxHeartbeats 1000000 in
theorem last_impl (w : World) (sz : Int) (a al : Option Addr) (c cl : Nat) (vs : List Vt) (left : List Int) (x : Int) (hR : RdV w a vs) (hS : SmallV sz vs) (hL : RdI w al left) (hll : left.length ≤ 2000000) :
    Calls Tryz.prog 84 #[.agg #[.int .i64 sz, .slice a vs.length c], .slice al left.length cl, .int .i64 x] w fun e w' => e = .returned (.int .i64 (sumV (lsP left x) vs)) ∧ Ext w w' := by
  have HS := hide hS
  clear hS
  go_enter Tryz.func84, Tryz.ntmps84
  go_wp2_with fail
  refine (votersV 116 _ _ (lsP left x) _ sz _ _ vs (hR.ext (by repeat (first | exact Ext.refl _ | assumption | refine Ext.alloc ?_ _ | refine Ext.drew ?_ | refine Ext.trans ?_ (by assumption)))) HS.out Tryz.call116 ?_).mono ?_
  · intro v a' c' w' hv hw' hRv hc'
    exact lastCl w' _ _ al a' cl c' left v.1 x (hw'.keep (by go_simp)) (hw'.keep (by go_simp)) (hL.ext ((show Ext w _ from (by repeat (first | exact Ext.refl _ | assumption | refine Ext.alloc ?_ _ | refine Ext.drew ?_ | refine Ext.trans ?_ (by assumption)))).trans hw')) hRv (by have := (rk_len (HS.out.2 v hv).1).2; omega) hll
  rintro e w1 ⟨rfl, hw1⟩
  go_wp2
  go_ret
  exact ⟨rfl, (by repeat (first | exact Ext.refl _ | assumption | refine Ext.alloc ?_ _ | refine Ext.drew ?_ | refine Ext.trans ?_ (by assumption)))⟩

set_option maxRecDepth 100000 in
set_option maxHeartbeats 1000000 in
theorem firstIn (w : World) (g1 g2 : Nat) (a : Option Addr) (c : Nat) (xs : List Int) (x b : Int) (h1 : w.cell? ⟨g1, 0, none⟩ = some (.slice a xs.length c)) (h2 : w.cell? ⟨g2, 0, none⟩ = some (.int .i64 x)) (hR : RdI w a xs) (hl : xs.length ≤ 2000000) :
    Calls Tryz.prog 115 #[.int .i64 b, .pointer (some ⟨g1, 0, none⟩), .pointer (some ⟨g2, 0, none⟩)] w fun e w' => e = .returned (.bool (prefB xs b x)) ∧ Ext w w' := by
  go_enter Tryz.func115, Tryz.ntmps115
  go_wp2_with (go_at_call 10; refine (pref_impl _ _ _ _ _ _ (hR.ext (by repeat (first | exact Ext.refl _ | assumption | refine Ext.alloc ?_ _ | refine Ext.drew ?_ | refine Ext.trans ?_ (by assumption)))) hl).mono ?_; rintro e w1 ⟨rfl, hw1⟩)
  go_ret
  exact ⟨rfl, (by repeat (first | exact Ext.refl _ | assumption | refine Ext.alloc ?_ _ | refine Ext.drew ?_ | refine Ext.trans ?_ (by assumption)))⟩

set_option maxRecDepth 100000 in
set_option maxHeartbeats 1000000 in
theorem firstCl (w : World) (gl ga : Nat) (al a : Option Addr) (cl c : Nat) (left xs : List Int) (x : Int) (h1 : w.cell? ⟨gl, 0, none⟩ = some (.slice al left.length cl)) (h2 : w.cell? ⟨ga, 0, none⟩ = some (.int .i64 x)) (hL : RdI w al left) (hR : RdI w a xs) (hl : xs.length ≤ 2000000) (hll : left.length ≤ 2000000) :
    Calls Tryz.prog 113 #[.slice a xs.length c, .pointer (some ⟨gl, 0, none⟩), .pointer (some ⟨ga, 0, none⟩)] w fun e w' => e = .returned (.bool (fsP left x xs)) ∧ Ext w w' := by
  have p0 := new0 w (.slice a xs.length c) [] 28
  have h1' := Ext.keep (Ext.new w (.cells #[.slice a xs.length c] 28)) h1
  have h2' := Ext.keep (Ext.new w (.cells #[.slice a xs.length c] 28)) h2
  go_enter Tryz.func113, Tryz.ntmps113
  go_wp2_with fail
  refine (containsFuncI 115 #[] #[.pointer (some ⟨w.heap.size, 0, none⟩), .pointer (some ⟨ga, 0, none⟩)] (fun b => prefB xs b x) _ al cl left (hL.ext (by repeat (first | exact Ext.refl _ | assumption | refine Ext.alloc ?_ _ | refine Ext.drew ?_ | refine Ext.trans ?_ (by assumption)))) hll Tryz.call115
    (fun b w' _ hw' => firstIn w' _ _ a c xs x b (hw'.keep p0) (hw'.keep h2') (hR.ext ((Ext.new _ _).trans hw')) hl)).mono ?_
  rintro e w1 ⟨rfl, hw1⟩
  go_wp2
  go_ret
  exact ⟨rfl, (by repeat (first | exact Ext.refl _ | assumption | refine Ext.alloc ?_ _ | refine Ext.drew ?_ | refine Ext.trans ?_ (by assumption)))⟩

set_option maxRecDepth 100000 in
set_option maxHeartbeats 1000000 in
theorem first_impl (w : World) (sz : Int) (a al : Option Addr) (c cl : Nat) (vs : List Vt) (left : List Int) (x : Int) (hR : RdV w a vs) (hS : SmallV sz vs) (hL : RdI w al left) (hll : left.length ≤ 2000000) :
    Calls Tryz.prog 82 #[.agg #[.int .i64 sz, .slice a vs.length c], .slice al left.length cl, .int .i64 x] w fun e w' => e = .returned (.int .i64 (sumV (fsP left x) vs)) ∧ Ext w w' := by
  have HS := hide hS
  clear hS
  go_enter Tryz.func82, Tryz.ntmps82
  go_wp2_with fail
  refine (votersV 113 _ _ (fsP left x) _ sz _ _ vs (hR.ext (by repeat (first | exact Ext.refl _ | assumption | refine Ext.alloc ?_ _ | refine Ext.drew ?_ | refine Ext.trans ?_ (by assumption)))) HS.out Tryz.call113 ?_).mono ?_
  · intro v a' c' w' hv hw' hRv hc'
    exact firstCl w' _ _ al a' cl c' left v.1 x (hw'.keep (by go_simp)) (hw'.keep (by go_simp)) (hL.ext ((show Ext w _ from (by repeat (first | exact Ext.refl _ | assumption | refine Ext.alloc ?_ _ | refine Ext.drew ?_ | refine Ext.trans ?_ (by assumption)))).trans hw')) hRv (by have := (rk_len (HS.out.2 v hv).1).2; omega) hll
  rintro e w1 ⟨rfl, hw1⟩
  go_wp2
  go_ret
  exact ⟨rfl, (by repeat (first | exact Ext.refl _ | assumption | refine Ext.alloc ?_ _ | refine Ext.drew ?_ | refine Ext.trans ?_ (by assumption)))⟩

end Go.Proofs.YtfmeklgdaabooaaGreatDoor
