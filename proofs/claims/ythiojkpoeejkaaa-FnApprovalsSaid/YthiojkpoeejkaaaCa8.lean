/- The source of numbers that a code is. What the statements' reading of bytes says of memory. ApprovalScores of both packages. -/
import Derived.Test.YthiojkpoeejkaaaCa1
import Derived.Test.YthiojkpoeejkaaaCa3
import Derived.Test.YthiojkpoeejkaaaCa7
import Derived.Test.YthiojkpoeejkaaaCa2
namespace Go.Proofs.Ythiojkpoeejkaaa
open Go.RowKit

/-- The slice address a reads as the bytes bs. -/
def RdY (w : World) (a : Option Addr) (bs : List Int) : Prop := bs ≠ [] → ∃ b off, a = some ⟨b, off, none⟩ ∧ ∀ (j : Nat) (x : Int), bs[j]? = some x → w.cell? ⟨b, off + j, none⟩ = some (.int .u8 x)
set_option maxRecDepth 100000 in
theorem RdY.ext {w w' : World} {a : Option Addr} {bs : List Int} (h : RdY w a bs) (hw : Ext w w') : RdY w' a bs := fun hne => by
  obtain ⟨b, off, ha, hj⟩ := h hne
  exact ⟨b, off, ha, fun j x hx => hw.keep (hj j x hx)⟩
set_option maxRecDepth 100000 in
theorem RdY.at_ {w : World} {a : Option Addr} {bs : List Int} (h : RdY w a bs) {k : Nat} {x : Int} (hx : bs[k]? = some x) : ∃ b off, a = some ⟨b, off, none⟩ ∧ w.cell? ⟨b, off + k, none⟩ = some (.int .u8 x) := by
  obtain ⟨b, off, ha, hj⟩ := h (ne_of_at hx)
  exact ⟨b, off, ha, hj k x hx⟩
set_option maxRecDepth 100000 in
theorem RdY.lt {w : World} {b off : Nat} {bs : List Int} (h : RdY w (some ⟨b, off, none⟩) bs) (hne : bs ≠ []) : b < w.heap.size := by
  obtain ⟨x, hx⟩ := at_of_lt (xs := bs) (k := 0) (List.length_pos_iff.2 hne)
  obtain ⟨b', off', e, hc⟩ := h.at_ hx
  injection e with e
  injection e with e
  subst e
  exact World.block_lt_of_cell? w _ hc
set_option maxRecDepth 100000 in
theorem Only.rdY {g : Nat} {w w' : World} (h : Only g w w') {a : Option Addr} {bs : List Int} (hr : RdY w a bs) (hne : ∀ b off, a = some ⟨b, off, none⟩ → bs ≠ [] → b < g) : RdY w' a bs := fun hx => by
  obtain ⟨b, off, rfl, hc⟩ := hr hx
  exact ⟨b, off, rfl, fun j x hj => h.keep (by have := hne b off rfl hx; show b ≠ g; omega) (hc j x hj)⟩
def curF (a : Option Addr) (n c : Nat) (i h : Int) (o : Nat) : Value := if o = 0 then .slice a n c else if o = 1 then .int .i64 i else if o = 2 then .int .i64 h else undef
/-- Block g is such a source. -/
def Cur (w : World) (g : Nat) : Prop := ∃ (a : Option Addr) (bs : List Int) (c i : Nat) (h : Int), BlkF w g 3 (curF a bs.length c i h) ∧ i ≤ bs.length ∧ bs.length ≤ 1048576 ∧ RdY w a bs ∧ ∀ b off, a = some ⟨b, off, none⟩ → bs ≠ [] → b < g
set_option maxRecDepth 100000 in
theorem Cur.ext {w w' : World} {g : Nat} (h : Cur w g) (hw : Ext w w') : Cur w' g := by
  obtain ⟨a, bs, c, i, k, hB, h1, h2, hR, h3⟩ := h
  exact ⟨a, bs, c, i, k, hB.ext hw, h1, h2, hR.ext hw, h3⟩
set_option maxRecDepth 100000 in
theorem Cur.lt {w : World} {g : Nat} (h : Cur w g) : g < w.heap.size := by
  obtain ⟨a, bs, c, i, k, hB, _⟩ := h
  exact hB.lt
set_option maxRecDepth 100000 in
theorem Cur.only {w w' : World} {g g' : Nat} (h : Cur w g) (hg : g < g') (hw : Only g' w w') : Cur w' g := by
  obtain ⟨a, bs, c, i, k, hB, h1, h2, hR, h3⟩ := h
  exact ⟨a, bs, c, i, k, hw.blk hB (by omega), h1, h2, hw.rdY hR (fun b off ha hne => by have := h3 b off ha hne; omega), h3⟩
set_option maxRecDepth 100000 in
theorem and255 (x : Int) : 0 ≤ bits BinOp.and IntKind.i64 x 255 ∧ bits BinOp.and IntKind.i64 x 255 ≤ 255 := by
  have h1 : bits BinOp.and IntKind.i64 x 255 = IntKind.i64.wrap ((BitVec.ofInt 64 x &&& BitVec.ofInt 64 255).toNat : Int) := rfl
  have h2 : (BitVec.ofInt 64 x &&& BitVec.ofInt 64 255).toNat ≤ 255 := by
    rw [BitVec.toNat_and]
    exact Nat.le_trans Nat.and_le_right (by decide)
  rw [h1, IntWalk.i64_in _ (by omega)]
  omega

set_option maxRecDepth 100000 in
set_option maxHeartbeats 1000000 in
theorem byte_spec (w : World) (g : Nat) (hC : Cur w g) :
    Calls Try.prog 88 #[.pointer (some ⟨g, 0, none⟩)] w fun e w' => ∃ x : Int, e = .returned (.int .i64 x) ∧ (0 ≤ x ∧ x ≤ 255) ∧ Cur w' g ∧ Only g w w' := by
  obtain ⟨a, bs, c, i, h, hB, hi, hl, hR, hb⟩ := hC
  have c0 : w.cell? ⟨g, 0, none⟩ = some (.slice a bs.length c) := hB.cell 0 (by omega)
  have c1 : w.cell? ⟨g, 1, none⟩ = some (.int .i64 i) := hB.cell 1 (by omega)
  have c2 : w.cell? ⟨g, 2, none⟩ = some (.int .i64 h) := hB.cell 2 (by omega)
  have z2 := hB.fr 2
  have HB := hide hB
  have HRB := hide hb
  have HRY := hide hR
  clear hB hb hR
  go_enter Try.func88, Try.ntmps88
  go_wp2
  have hO : Only g w (w.setCell ⟨g, 2, none⟩ (.int .i64 (wrap64 (wrap64 (h * 6364136223846793005) + 1442695040888963407)))) := (Only.refl g w).setCell 2 _
  have hB1 := (HB.out.set 2 (by omega) (.int .i64 (wrap64 (wrap64 (h * 6364136223846793005) + 1442695040888963407)))).congr (f' := curF a bs.length c i (wrap64 (wrap64 (h * 6364136223846793005) + 1442695040888963407))) (fun o ho => by
    match o, ho with
    | 0, _ => rfl
    | 1, _ => rfl
    | 2, _ => rfl)
  generalize wrap64 (wrap64 (h * 6364136223846793005) + 1442695040888963407) = h2 at hO hB1 ⊢
  generalize w.setCell ⟨g, 2, none⟩ (.int .i64 h2) = W at hO hB1 ⊢
  have hR1 := hO.rdY HRY.out HRB.out
  have c0 : W.cell? ⟨g, 0, none⟩ = some (.slice a bs.length c) := hB1.cell 0 (by omega)
  have c1 : W.cell? ⟨g, 1, none⟩ = some (.int .i64 i) := hB1.cell 1 (by omega)
  have c2 : W.cell? ⟨g, 2, none⟩ = some (.int .i64 h2) := hB1.cell 2 (by omega)
  have HB1 := hide hB1
  have HR1 := hide hR1
  clear hB1 hR1 HB HRY z2
  refine wp_region_X (by kernel_rfl) (by kernel_rfl) ?_
  repeat' (refine wpX_stepQ (fun K hK => ?_)
           go_simp
           try (rw [if_neg (by intro h; simp [undef] at h)])
           try split
           all_goals
             first
             | (refine hK _ ?_
                clear hK K)
             | (apply Exists.intro
                refine ⟨fun wq hwq => ?_, hK _ ?_⟩
                · have hcq := hwq.cellS
                  go_simp
                  first
                  | exact ⟨Ext.refl _, rfl⟩
                clear hK K))
  refine wpX_nil (fun wz hwz => ?_)
  have c0 := hwz.keep c0
  have c1 := hwz.keep c1
  have hO := hO.trans (Only.of_ext hwz)
  have HB1 := hide (HB1.out.ext hwz)
  have HR1 := hide (HR1.out.ext hwz)
  clear hwz
  have hx := and255 (bits BinOp.xor IntKind.i64 (h2 / 8589934592) (h2 / 35184372088832))
  generalize bits BinOp.and IntKind.i64 (bits BinOp.xor IntKind.i64 (h2 / 8589934592) (h2 / 35184372088832)) 255 = X at hx ⊢
  obtain ⟨wa, hwa⟩ : ∃ wa : World, wa = wz := ⟨_, rfl⟩
  subst hwa
  by_cases hit : i < bs.length
  · obtain ⟨y, hy⟩ := at_of_lt hit
    obtain ⟨b, off, rfl, d0⟩ := HR1.out.at_ hy
    clear hy
    go_wp2
    refine wp_region_X (by kernel_rfl) (by kernel_rfl) ?_
    repeat' (refine wpX_stepQ (fun K hK => ?_)
             go_simp
             try (rw [if_neg (by intro h; simp [undef] at h)])
             try split
             all_goals
               first
               | (refine hK _ ?_
                  clear hK K)
               | (apply Exists.intro
                  refine ⟨fun wq hwq => ?_, hK _ ?_⟩
                  · have hcq := hwq.cellS
                    go_simp
                    first
                    | exact ⟨Ext.refl _, rfl⟩
                  clear hK K))
    refine wpX_nil (fun wz hwz => ?_)
    have c0 := hwz.keep c0
    have c1 := hwz.keep c1
    have d0 := hwz.keep d0
    have hO := hO.trans (Only.of_ext hwz)
    have HB1 := hide (HB1.out.ext hwz)
    have HR1 := hide (HR1.out.ext hwz)
    clear hwz
    obtain ⟨wc, hwc⟩ : ∃ wc : World, wc = wz := ⟨_, rfl⟩
    subst hwc
    go_wp2
    refine wp_region_X (by kernel_rfl) (by kernel_rfl) ?_
    repeat' (refine wpX_stepQ (fun K hK => ?_)
             go_simp
             try (rw [if_neg (by intro h; simp [undef] at h)])
             try split
             all_goals
               first
               | (refine hK _ ?_
                  clear hK K)
               | (apply Exists.intro
                  refine ⟨fun wq hwq => ?_, hK _ ?_⟩
                  · have hcq := hwq.cellS
                    go_simp
                    first
                    | exact ⟨Ext.refl _, rfl⟩
                  clear hK K))
    refine wpX_nil (fun wz hwz => ?_)
    have c1 := hwz.keep c1
    have hO := hO.trans (Only.of_ext hwz)
    have hBz := HB1.out.ext hwz
    have z1 := hBz.fr 1
    have HB2 := hide hBz
    have HR2 := hide (HR1.out.ext hwz)
    have y1 : wrap64 ((i : Int) + 1) = ((i + 1 : Nat) : Int) := by rw [IntWalk.wrap64_in _ (by omega)]; omega
    clear hwz hBz
    have hx2 := and255 (IntKind.i64.wrap (X + IntKind.i64.wrap y))
    generalize bits BinOp.and IntKind.i64 (IntKind.i64.wrap (X + IntKind.i64.wrap y)) 255 = Z at hx2 ⊢
    go_wp2
    go_ret
    refine ⟨Z, rfl, hx2, ⟨some ⟨b, off, none⟩, bs, c, i + 1, h2, (HB2.out.set 1 (by omega) _).congr (fun o ho => ?_), by omega, hl, ((Only.refl g wz).setCell 1 _).rdY HR2.out HRB.out, HRB.out⟩, hO.setCell 1 _⟩
    match o, ho with
    | 0, _ => rfl
    | 1, _ => rfl
    | 2, _ => rfl
  · go_wp2
    refine wp_region_X (by kernel_rfl) (by kernel_rfl) ?_
    repeat' (refine wpX_stepQ (fun K hK => ?_)
             go_simp
             try (rw [if_neg (by intro h; simp [undef] at h)])
             try split
             all_goals
               first
               | (refine hK _ ?_
                  clear hK K)
               | (apply Exists.intro
                  refine ⟨fun wq hwq => ?_, hK _ ?_⟩
                  · have hcq := hwq.cellS
                    go_simp
                    first
                    | exact ⟨Ext.refl _, rfl⟩
                  clear hK K))
    refine wpX_nil (fun wz hwz => ?_)
    go_wp2
    go_ret
    exact ⟨X, rfl, hx, ⟨a, bs, c, i, h2, HB1.out.ext hwz, hi, hl, HR1.out.ext hwz, HRB.out⟩, hO.trans (Only.of_ext hwz)⟩

set_option maxRecDepth 100000 in
theorem tmod_bd {x : Int} {n : Nat} (h0 : 0 ≤ x) (hn : 1 ≤ n) : 0 ≤ x.tmod n ∧ x.tmod n < n := by
  obtain ⟨k, rfl⟩ : ∃ k : Nat, x = k := ⟨x.toNat, by omega⟩
  have h : ((k : Int).tmod (n : Int)) = ((k % n : Nat) : Int) := rfl
  have h2 : k % n < n := Nat.mod_lt k (by omega)
  rw [h]; omega

set_option maxRecDepth 100000 in
set_option maxHeartbeats 1000000 in
theorem below_spec (w : World) (g n : Nat) (hC : Cur w g) (n1 : 1 ≤ n) (n2 : n ≤ 256) :
    Calls Try.prog 178 #[.pointer (some ⟨g, 0, none⟩), .int .i64 n] w fun e w' => ∃ x : Nat, e = .returned (.int .i64 x) ∧ x < n ∧ Cur w' g ∧ Only g w w' := by
  have i1 : ¬ (n : Int) ≤ 0 := by omega
  have i2 : (n : Int) ≤ 256 := by omega
  have i3 : n ≤ 256 := by omega
  have i4 : (n : Int) ≠ 0 := by omega
  have i5 : n ≠ 0 := by omega
  go_enter Try.func178, Try.ntmps178
  go_wp2_with fail
  refine (byte_spec _ g hC).mono ?_
  rintro e w1 ⟨x, rfl, hx, hC1, hO1⟩
  obtain ⟨m, hm⟩ : ∃ m : Nat, x.tmod n = m := ⟨(x.tmod n).toNat, by have := tmod_bd (n := n) hx.1 n1; omega⟩
  have hmn : m < n := by have := tmod_bd (n := n) hx.1 n1; omega
  go_wp2
  go_ret
  exact ⟨m, rfl, hmn, hC1, hO1⟩

set_option maxRecDepth 100000 in
theorem cur_new (w : World) (a : Option Addr) (c : Nat) (x : Int) (bs : List Int) (hR : RdY w a bs) (hl : bs.length ≤ 1048576) : Cur (w.alloc (.cells #[.slice a bs.length c, .int .i64 0, .int .i64 x] 128)) w.heap.size := by
  refine ⟨a, bs, c, 0, x, (BlkF.new w #[.slice a bs.length c, .int .i64 0, .int .i64 x] 128).congr (fun o ho => ?_), Nat.zero_le _, hl, hR.ext (Ext.new _ _), fun b off ha hne => ?_⟩
  · match o, ho with
    | 0, _ => rfl
    | 1, _ => rfl
    | 2, _ => rfl
  · subst ha
    exact hR.lt hne

set_option maxRecDepth 100000 in
set_option maxHeartbeats 1000000 in
theorem new_spec (w : World) (a : Option Addr) (c : Nat) (bs : List Int) (hR : RdY w a bs) (hl : bs.length ≤ 1048576) :
    Calls Try.prog 179 #[.slice a bs.length c] w fun e w' => ∃ g, e = .returned (.pointer (some ⟨g, 0, none⟩)) ∧ w.heap.size ≤ g ∧ Cur w' g ∧ Ext w w' := by
  have y0 : wrap64 (2139 + (bs.length : Int)) = 2139 + (bs.length : Int) := IntWalk.wrap64_in _ (by omega)
  go_enter Try.func179, Try.ntmps179
  go_wp2_with fail
  go_loopw [3, 4] (fun h i wr => ∃ (k : Nat) (x : Int), i = .int .i64 k ∧ h = .int .i64 x ∧ k ≤ bs.length ∧ wr = w) (fun _ i _ => bs.length - (intOf i).toNat)
  case atStart => exact ⟨0, _, rfl, rfl, Nat.zero_le _, rfl⟩
  case round =>
    obtain ⟨k, x, rfl, rfl, hk, rfl⟩ := hrel
    by_cases hkt : k < bs.length ∧ k < 4000
    · obtain ⟨k1, k2⟩ := hkt
      obtain ⟨y, hy⟩ := at_of_lt k1
      obtain ⟨b, off, rfl, c0⟩ := hR.at_ hy
      have k3 : (k : Int) < 4000 := by omega
      clear hy
      go_wp2
      exact ⟨⟨k + 1, _, by go_num, rfl, by omega, trivial⟩, by simp [intOf]; omega⟩
    · by_cases k1 : k < bs.length
      · have k2 : ¬ k < 4000 := fun h => hkt ⟨k1, h⟩
        have k3 : ¬ (k : Int) < 4000 := by omega
        clear hkt
        go_wp2
        go_ret
        exact ⟨wr.heap.size, rfl, Nat.le_refl _, cur_new wr a c x bs hR hl, Ext.new _ _⟩
      · clear hkt
        go_wp2
        go_ret
        exact ⟨wr.heap.size, rfl, Nat.le_refl _, cur_new wr a c x bs hR hl, Ext.new _ _⟩

set_option maxRecDepth 100000 in
/-- What happened in memory: old blocks are as they were but for the source. -/
theorem Only.fresh {g k : Nat} {a b c : World} (h : Only g a b) (hg : b.grownBy c (some k)) (hk : a.heap.size ≤ k) : Only g a c :=
  ⟨hg.os.trans h.os, hg.tape.trans h.tape, hg.output.trans h.output, Nat.le_trans h.size hg.size, fun i hi hne => (hg.block i (Nat.lt_of_lt_of_le hi h.size) (fun e => by injection e with e; omega)).trans (h.block i hi hne)⟩

set_option maxRecDepth 100000 in
set_option maxHeartbeats 1000000 in
theorem lnew_spec (w : World) (a : Option Addr) (c n : Nat) (bs : List Int) (hR : RdY w a bs) (hl : bs.length ≤ 1048576) (hn : n ≤ 1000) :
    Calls Try.prog 87 #[.slice a bs.length c, .int .i64 n] w fun e w' => ∃ g, e = .returned (.pointer (some ⟨g, 0, none⟩)) ∧ w.heap.size ≤ g ∧ Cur w' g ∧ Ext w w' := by
  go_enter Try.func87, Try.ntmps87
  go_wp2_with fail
  refine (new_spec w a c bs hR hl).mono ?_
  rintro e w1 ⟨g, rfl, hg, hC, hw1⟩
  go_wp2_with fail
  go_loopw [6] (fun i wr => ∃ k : Nat, i = .int .i64 k ∧ k ≤ n ∧ Cur wr g ∧ Ext w wr) (fun i _ => n - (intOf i).toNat)
  case atStart => exact ⟨0, rfl, Nat.zero_le _, hC, hw1⟩
  case round =>
    clear hC hw1
    obtain ⟨k, rfl, hk, hC, hwr⟩ := hrel
    by_cases hkt : k < n
    · have HC := hide hC
      clear hC
      go_wp2_with fail
      refine (byte_spec _ g HC.out).mono ?_
      rintro e w2 ⟨x, rfl, hx, hC2, hO2⟩
      go_wp2
      exact ⟨⟨k + 1, by go_num, by omega, hC2, Only.ext hwr hO2 hg⟩, by simp [intOf]; omega⟩
    · have HC := hide hC
      clear hC
      go_wp2
      go_ret
      exact ⟨g, rfl, hg, HC.out, hwr⟩

set_option maxRecDepth 100000 in
set_option maxHeartbeats 1000000 in
theorem numY_spec (w : World) (a : Option Addr) (c n : Nat) (bs : List Int) (hR : RdY w a bs) (hl : bs.length ≤ 1048576) (hn : n ≤ 1000) :
    Calls Try.prog 11 #[.slice a bs.length c, .int .i64 n] w fun e w' => ∃ x : Nat, e = .returned (.int .i64 x) ∧ x ≤ 65536 ∧ Ext w w' := by
  go_enter Try.func11, Try.ntmps11
  go_wp2_with fail
  refine (lnew_spec w a c n bs hR hl hn).mono ?_
  rintro e w1 ⟨g, rfl, hg, hC, hw1⟩
  go_wp2_with fail
  refine (byte_spec _ g hC).mono ?_
  rintro e w2 ⟨x, rfl, hx, hC2, hO2⟩
  have hw2 := Only.ext hw1 hO2 hg
  go_wp2_with fail
  refine (byte_spec _ g hC2).mono ?_
  rintro e w3 ⟨y, rfl, hy, hC3, hO3⟩
  have y1 : wrap64 (x * 256) = x * 256 := IntWalk.wrap64_in _ (by omega)
  have y2 : wrap64 (x * 256 + y) = x * 256 + y := IntWalk.wrap64_in _ (by omega)
  go_wp2
  go_ret
  exact ⟨(x * 256 + y).toNat, ret_int (by omega), by omega, Only.ext hw2 hO3 hg⟩

open Go.ChangeShapes Go.WideShapes Go.ChangeAt Go.RowKit Go.Joins Go.Deep

section
variable {H : Type} {enc : TypeId × Value → H} {W : World} {base : Nat} {spare : Nat → Bool} {held : Bool} {b0 : Nat}
set_option maxRecDepth 100000 in
theorem openY_trod {fuel : Nat} {v : Value} {x : DataW H × List MemPlace} (h : DataW.trod enc Try.prog W base spare held fuel 22 [v] = some x) :
    ∃ (a : Option Addr) (xs : List Int) (c : Nat), v = .slice a xs.length c ∧ RdY W a xs ∧ xs.length ≤ c ∧ xs.length ≤ maxLen := by
  rcases open_ints Try.underlying22 Try.underlying5 (by kernel_rfl) h with ⟨e1, _⟩ | ⟨a, len, cap, zs, e1, _, hl, hm, hzl, _, hc, _⟩
  · simp at e1
    subst e1
    exact ⟨none, [], 0, rfl, fun h => absurd rfl h, Nat.le_refl _, by simp⟩
  · simp at e1
    subst e1
    have hle : len ≤ zs.length := by rw [hzl]; split <;> omega
    have htl : (zs.take len).length = len := by simp; omega
    refine ⟨some a, zs.take len, cap, by rw [htl], fun hne => ?_, by omega, by omega⟩
    have hpos : 0 < len := by have := List.length_pos_iff.2 hne; omega
    have h0 := hc 0 (by omega)
    obtain ⟨b, off, spot⟩ := a
    have hspot : spot = none := by simpa [Addr.add] using World.cell?_spot h0
    subst hspot
    refine ⟨b, off, rfl, fun j y hy => ?_⟩
    have hj := lt_of_at hy
    rw [htl] at hj
    have h2 := hc j (by omega)
    rw [addr_add_none] at h2
    rw [h2]
    rw [List.getElem?_take_of_lt hj] at hy
    simp [List.getD, hy]

set_option maxRecDepth 100000 in
theorem openY {v : Value} {d : DataW H} {p : List MemPlace} (hv : Value.okWide Try.prog W .any b0 22 v) (h : DataW.Trod enc Try.prog W base spare held 22 v d p) :
    ∃ (a : Option Addr) (bs : List Int) (c : Nat), v = .slice a bs.length c ∧ RdY W a bs ∧ bs.length ≤ maxLen := by
  obtain ⟨m, hm⟩ := h
  obtain ⟨_, _, _, rfl⟩ := okWide_slice Try.underlying22 hv
  obtain ⟨a, xs, c, hv, hR, _, hl⟩ := openY_trod hm
  exact ⟨a, xs, c, hv, hR, hl⟩
end

/-- The weight of the ballots whose set has a property. -/
def sumIf (p : Int → Bool) (bs : List (Int × Int)) : Int := ((bs.filter (fun x => p x.1)).map Prod.snd).sum
set_option maxRecDepth 100000 in
theorem sumIf_at {p : Int → Bool} {bs : List (Int × Int)} {k : Nat} {x : Int × Int} (hx : bs[k]? = some x) : sumIf p (bs.take (k + 1)) = sumIf p (bs.take k) + if p x.1 then x.2 else 0 := by
  rw [take_at hx]
  unfold sumIf
  rw [List.filter_append, List.map_append, List.sum_append]
  cases h : p x.1 <;> simp [h]
def Small (bs : List (Int × Int)) : Prop := bs.length ≤ 12 ∧ ∀ x ∈ bs, 0 ≤ x.1 ∧ x.1 ≤ 63 ∧ 1 ≤ x.2 ∧ x.2 ≤ 1000
set_option maxRecDepth 100000 in
theorem small_of {sz : Int} {bs : List (Int × Int)} (h : appOk sz bs = true) : Small bs := ⟨ok_len h, fun x hx => by have := ok_at h hx; omega⟩
set_option maxRecDepth 100000 in
theorem sumIf_bd {p : Int → Bool} {bs : List (Int × Int)} (h : Small bs) : ∀ k : Nat, k ≤ bs.length → 0 ≤ sumIf p (bs.take k) ∧ sumIf p (bs.take k) ≤ 1000 * k
  | 0, _ => by simp [sumIf]
  | k + 1, hk => by
    obtain ⟨x, hx⟩ := at_of_lt (xs := bs) (k := k) (by omega)
    have h1 := sumIf_bd h k (by omega) (p := p)
    have h2 := h.2 x (List.mem_of_getElem? hx)
    rw [sumIf_at hx]
    split <;> omega

set_option maxRecDepth 100000 in
set_option maxHeartbeats 1000000 in
theorem voters_impl (K : Nat) (fst cap : Array Value) (p : Int → Bool) (w : World) (sz : Int) (a : Option Addr) (c : Nat) (bs : List (Int × Int)) (hR : RdP w a bs) (hS : Small bs) (hK : Enters Try.prog K)
    (hf : ∀ (x : Int × Int) (w' : World), x ∈ bs → Ext w w' → Calls Try.prog K (fst.push (.int .i64 x.1) ++ cap) w' fun e w'' => e = .returned (.bool (p x.1)) ∧ Ext w' w'') :
    Calls Try.prog 92 #[.agg #[.int .i64 sz, .slice a bs.length c], .func (.func K) fst cap] w fun e w' => e = .returned (.int .i64 (sumIf p bs)) ∧ Ext w w' := by
  unfold Enters at hK
  have HF := hide hf
  clear hf
  have HS := hide hS
  have hl := hS.1
  clear hS
  go_enter Try.func92, Try.ntmps92
  go_wp2_with fail
  go_loopw [5, 7, 11] (fun s _ i wr => ∃ k : Nat, k ≤ bs.length ∧ i = .int .i64 k ∧ s = .int .i64 (sumIf p (bs.take k)) ∧ Ext w wr) (fun _ _ i _ => bs.length - (intOf i).toNat)
  case atStart => exact ⟨0, Nat.zero_le _, rfl, rfl, (by repeat (first | exact Ext.refl _ | assumption | refine Ext.alloc ?_ _ | refine Ext.drew ?_ | refine Ext.trans ?_ (by assumption)))⟩
  case round =>
    obtain ⟨k, hk, rfl, rfl, hwr⟩ := hrel
    obtain ⟨b1, b2⟩ := sumIf_bd HS.out k hk (p := p)
    by_cases hlt : k < bs.length
    · obtain ⟨x, hx⟩ := at_of_lt hlt
      obtain ⟨b, off, rfl, c0, c1⟩ := (hR.ext hwr).at_ hx
      obtain ⟨_, _, x1, x2⟩ := HS.out.2 x (List.mem_of_getElem? hx)
      have HX := hide hx
      clear hx
      cases hp : p x.1
      all_goals
        go_wp2_with fail
        refine (HF.out x _ (List.mem_of_getElem? HX.out) (by repeat (first | exact Ext.refl _ | assumption | refine Ext.alloc ?_ _ | refine Ext.drew ?_ | refine Ext.trans ?_ (by assumption)))).mono ?_
        rintro e w1 ⟨rfl, hw1⟩
        have e1 := hw1.keep (new1 wr _ _ _ _)
        go_wp2
      · exact ⟨⟨k + 1, by omega, by go_num, by rw [sumIf_at HX.out, hp]; simp, (by repeat (first | exact Ext.refl _ | assumption | refine Ext.alloc ?_ _ | refine Ext.drew ?_ | refine Ext.trans ?_ (by assumption)))⟩, by simp [intOf]; omega⟩
      · exact ⟨⟨k + 1, by omega, by go_num, by rw [sumIf_at HX.out, hp]; simp, (by repeat (first | exact Ext.refl _ | assumption | refine Ext.alloc ?_ _ | refine Ext.drew ?_ | refine Ext.trans ?_ (by assumption)))⟩, by simp [intOf]; omega⟩
    · go_wp2
      go_ret
      exact ⟨ret_int (by rw [List.take_of_length_le (by omega)]), hwr⟩

set_option maxRecDepth 100000 in
theorem bit_impl {s : Int} (h0 : 0 ≤ s) (h63 : s ≤ 63) {k : Nat} (h : k < 6) : (bits BinOp.and IntKind.i64 (s / 2 ^ k) 1 == 1) = bitAt s k := by
  refine sets (p := fun s => (bits BinOp.and IntKind.i64 (s / 2 ^ k) 1 == 1) = bitAt s k) (fun n hn => ?_) h0 h63
  have : k = 0 ∨ k = 1 ∨ k = 2 ∨ k = 3 ∨ k = 4 ∨ k = 5 := by omega
  rcases this with rfl | rfl | rfl | rfl | rfl | rfl <;> revert n <;> decide

set_option maxRecDepth 100000 in
set_option maxHeartbeats 1000000 in
theorem scoreOne (w : World) (s : Int) (h0 : 0 ≤ s) (h63 : s ≤ 63) (b off k : Nat) (hk : k < 6) (hc : w.cell? ⟨b, off, none⟩ = some (.int .i64 (k : Int))) :
    Calls Try.prog 105 #[.int .i64 s, .pointer (some ⟨b, off, none⟩)] w fun e w' => e = .returned (.bool (bitAt s k)) ∧ Ext w w' := by
  have hb := bit_impl h0 h63 hk
  go_enter Try.func105, Try.ntmps105
  go_wp2
  go_ret
  exact ⟨rfl, Ext.refl _⟩

def scoresTo (bs : List (Int × Int)) (k : Nat) : List Int := (List.range k).map (fun a => sumIf (fun s => bitAt s a) bs)
set_option maxRecDepth 100000 in
theorem scoresTo_succ (bs : List (Int × Int)) (k : Nat) : scoresTo bs (k + 1) = scoresTo bs k ++ [sumIf (fun s => bitAt s k) bs] := by simp [scoresTo, List.range_succ]
set_option maxRecDepth 100000 in
theorem scoresTo_len (bs : List (Int × Int)) (k : Nat) : (scoresTo bs k).length = k := by simp [scoresTo]
def scoresOf (sz : Int) (bs : List (Int × Int)) : List Int := if appOk sz bs then scoresTo bs sz.toNat else []

set_option maxRecDepth 100000 in
set_option maxHeartbeats 2000000 in
theorem scores_impl (w : World) (sz : Int) (a : Option Addr) (c : Nat) (bs : List (Int × Int)) (hR : RdP w a bs) :
    Calls Try.prog 21 #[.agg #[.int .i64 sz, .slice a bs.length c]] w fun e w' => ∃ v, e = .returned v ∧ OwnI w' w.heap.size v (scoresOf sz bs) ∧ Ext w w' := by
  have q0 := new0 w (.int .i64 sz) [.slice a bs.length c] 25
  have q1 := new1 w (.int .i64 sz) (.slice a bs.length c) [] 25
  cases h1 : appOk sz bs
  · go_enter Try.func21, Try.ntmps21
    go_wp2_with (go_at_call 16; refine (ok_impl _ _ _ _ _ (hR.ext (by repeat (first | exact Ext.refl _ | assumption | refine Ext.alloc ?_ _ | refine Ext.drew ?_ | refine Ext.trans ?_ (by assumption))))).mono ?_; rintro e w1 ⟨rfl, hw1⟩; have q0 := Ext.keep (w' := w1) (by repeat (first | exact Ext.refl _ | assumption | refine Ext.alloc ?_ _ | refine Ext.drew ?_ | refine Ext.trans ?_ (by assumption))) q0; have q1 := Ext.keep (w' := w1) (by repeat (first | exact Ext.refl _ | assumption | refine Ext.alloc ?_ _ | refine Ext.drew ?_ | refine Ext.trans ?_ (by assumption))) q1)
    go_ret
    exact ⟨_, rfl, by simp [scoresOf, h1]; exact OwnI.nil _ _, (by repeat (first | exact Ext.refl _ | assumption | refine Ext.alloc ?_ _ | refine Ext.drew ?_ | refine Ext.trans ?_ (by assumption)))⟩
  obtain ⟨n, rfl⟩ : ∃ n : Nat, sz = (n : Int) := ⟨sz.toNat, by have := ok_size h1; omega⟩
  obtain ⟨hlo, hhi⟩ := ok_size h1
  have hS := small_of h1
  go_enter Try.func21, Try.ntmps21
  go_wp2_with (go_at_call 16; refine (ok_impl _ _ _ _ _ (hR.ext (by repeat (first | exact Ext.refl _ | assumption | refine Ext.alloc ?_ _ | refine Ext.drew ?_ | refine Ext.trans ?_ (by assumption))))).mono ?_; rintro e w1 ⟨rfl, hw1⟩; have q0 := Ext.keep (w' := w1) (by repeat (first | exact Ext.refl _ | assumption | refine Ext.alloc ?_ _ | refine Ext.drew ?_ | refine Ext.trans ?_ (by assumption))) q0; have q1 := Ext.keep (w' := w1) (by repeat (first | exact Ext.refl _ | assumption | refine Ext.alloc ?_ _ | refine Ext.drew ?_ | refine Ext.trans ?_ (by assumption))) q1)
  have hw : Ext w w1 := (by repeat (first | exact Ext.refl _ | assumption | refine Ext.alloc ?_ _ | refine Ext.drew ?_ | refine Ext.trans ?_ (by assumption)))
  clear hw1
  go_loopw [3, 4, 10] (fun v _ i wr => ∃ k : Nat, k ≤ n ∧ i = .int .i64 k ∧ OwnI wr w1.heap.size v (scoresTo bs k) ∧ Ext w1 wr) (fun _ _ i _ => n - (intOf i).toNat)
  case atStart => exact ⟨0, Nat.zero_le _, rfl, OwnI.nil _ _, Ext.refl _⟩
  case round =>
    obtain ⟨k, hk, rfl, hown, hwr⟩ := hrel
    have q0 := hwr.keep q0
    have q1 := hwr.keep q1
    by_cases hlt : k < n
    · have HV := hide (fun (w' : World) (hw' : Ext (wr.alloc (.cells #[.int .i64 (k : Int)] 3)) w') =>
        voters_impl 105 #[] #[.pointer (some ⟨wr.heap.size, 0, none⟩)] (fun s => bitAt s k) w' n a c bs (hR.ext (by repeat (first | exact Ext.refl _ | assumption | refine Ext.alloc ?_ _ | refine Ext.drew ?_ | refine Ext.trans ?_ (by assumption)))) hS (fun _ _ => Try.call105 _ _)
          (fun x w2 hx hw2 => scoreOne w2 x.1 (hS.2 x hx).1 (hS.2 x hx).2.1 wr.heap.size 0 k (by omega) (hw2.keep (hw'.keep (new0 wr _ _ _)))))
      go_wp2_with fail
      refine (HV.out _ (Ext.refl _)).mono ?_
      rintro e w2 ⟨rfl, hw2⟩
      go_wp2_with (at_builtin; refine wpList_appI w1 _ rfl _ _ rfl _ (scoresTo bs k) _ rfl (hown.ext (by repeat (first | exact Ext.refl _ | assumption | refine Ext.alloc ?_ _ | refine Ext.drew ?_ | refine Ext.trans ?_ (by assumption)))) (by repeat (first | exact Ext.refl _ | assumption | refine Ext.alloc ?_ _ | refine Ext.drew ?_ | refine Ext.trans ?_ (by assumption))) rfl (by rw [scoresTo_len]; omega) ?_; intro v' w3 hown3 hw3)
      exact ⟨⟨k + 1, by omega, by go_num, by rw [scoresTo_succ]; exact hown3, hw3⟩, by simp [intOf]; omega⟩
    · obtain rfl : k = n := by omega
      go_wp2
      go_ret
      exact ⟨_, rfl, by simp [scoresOf, h1]; exact hown.base hw.size, hw.trans hwr⟩

/-- The table of scores while candidate k is counted over m ballots. -/
def tab (bs : List (Int × Int)) (k m : Nat) (j : Nat) : Value := .int .i64 (if j < k then sumIf (fun s => bitAt s j) bs else if j = k then sumIf (fun s => bitAt s j) (bs.take m) else 0)
set_option maxRecDepth 100000 in
theorem tab_zero (bs : List (Int × Int)) (j : Nat) : tab bs 0 0 j = .int .i64 0 := by
  unfold tab
  rw [if_neg (by omega)]
  split <;> simp [sumIf]
set_option maxRecDepth 100000 in
theorem tab_done (bs : List (Int × Int)) (k : Nat) (j : Nat) : tab bs k bs.length j = tab bs (k + 1) 0 j := by
  unfold tab
  by_cases h1 : j < k
  · rw [if_pos h1, if_pos (by omega)]
  · by_cases h2 : j = k
    · subst h2; rw [if_neg h1, if_pos rfl, if_pos (by omega), List.take_of_length_le (Nat.le_refl _)]
    · rw [if_neg h1, if_neg h2, if_neg (by omega)]
      split <;> simp [sumIf]
set_option maxRecDepth 100000 in
theorem tab_at (bs : List (Int × Int)) (k m : Nat) : tab bs k m k = .int .i64 (sumIf (fun s => bitAt s k) (bs.take m)) := by
  unfold tab
  rw [if_neg (by omega), if_pos rfl]
set_option maxRecDepth 100000 in
theorem tab_far (bs : List (Int × Int)) (k m m' : Nat) {j : Nat} (h : j ≠ k) : tab bs k m j = tab bs k m' j := by
  unfold tab
  rw [if_neg h, if_neg h]

end Go.Proofs.Ythiojkpoeejkaaa
