/- Approvals that a code is, and fractions compared. Small helpers of the laws: sum, count, has, same. -/
import Derived.Test.YthiojkpoeejkaaaCa13
import Derived.Test.YthiojkpoeejkaaaCa25
import Derived.Test.YthiojkpoeejkaaaCa2
import Derived.Test.YthiojkpoeejkaaaCa15
import Derived.Test.YthiojkpoeejkaaaCa17
namespace Go.Proofs.Ythiojkpoeejkaaa
open Go.RowKit

set_option maxRecDepth 100000 in
theorem info_ap : (Try.prog.info? 41).map (fun i => (i.zero, i.size, i.bytes)) = some (some (.agg #[.int .i64 0, .int .i64 0]), 2, 16) := by kernel_rfl

def apL (es : List (Int × Int)) : List Value := es.flatMap (fun e => [.int .i64 e.1, .int .i64 e.2])
set_option maxRecDepth 100000 in
theorem apL_len : ∀ es : List (Int × Int), (apL es).length = es.length * 2
  | [] => rfl
  | e :: es => by
    have ih := apL_len es
    unfold apL at ih ⊢
    rw [List.flatMap_cons, List.length_append, ih, List.length_cons]
    simp; omega
set_option maxRecDepth 100000 in
theorem apL_snoc (es : List (Int × Int)) (e : Int × Int) : apL (es ++ [e]) = apL es ++ [.int .i64 e.1, .int .i64 e.2] := by simp [apL]
set_option maxRecDepth 100000 in
theorem apL_at : ∀ {es : List (Int × Int)} {k : Nat} {e : Int × Int}, es[k]? = some e → (apL es)[k * 2]? = some (.int .i64 e.1) ∧ (apL es)[k * 2 + 1]? = some (.int .i64 e.2)
  | [], k, e, h => by simp at h
  | x :: es, 0, e, h => by
    simp at h
    subst h
    exact ⟨rfl, rfl⟩
  | x :: es, k + 1, e, h => by
    have ih := apL_at (es := es) (k := k) (e := e) (by simpa using h)
    have e1 : apL (x :: es) = .int .i64 x.1 :: .int .i64 x.2 :: apL es := rfl
    rw [e1, show (k + 1) * 2 = k * 2 + 1 + 1 by omega, List.getElem?_cons_succ, List.getElem?_cons_succ, List.getElem?_cons_succ, List.getElem?_cons_succ]
    exact ih
/-- v is a list of ballots of the call's own. -/
def RowsA (w : World) (B : Nat) (v : Value) (es : List (Int × Int)) : Prop := w.ownsRow B 41 2 v es.length (apL es)
set_option maxRecDepth 100000 in
theorem RowsA.nil (w : World) (B : Nat) : RowsA w B (.slice none 0 0) [] := World.ownsRow_nil _ _ _ _
set_option maxRecDepth 100000 in
theorem RowsA.ext {w w' : World} {B : Nat} {v : Value} {es : List (Int × Int)} (h : RowsA w B v es) (hw : Ext w w') : RowsA w' B v es := ownsRow_ext h hw
set_option maxRecDepth 100000 in
theorem RowsA.base {w : World} {B B' : Nat} {v : Value} {es : List (Int × Int)} (h : RowsA w B v es) (hb : B' ≤ B) : RowsA w B' v es := ownsRow_base h hb
set_option maxRecDepth 100000 in
theorem RowsA.only {w w' : World} {B g : Nat} {v : Value} {es : List (Int × Int)} (h : RowsA w B v es) (hg : g < B) (hw : Only g w w') : RowsA w' B v es := by
  refine World.ownsRow.kept h hw ?_
  cases hv : v.ownBlock with
  | none => exact .inl rfl
  | some k =>
    refine .inr (fun e => ?_)
    injection e with e
    have := (World.ownsRow.lt h k hv).1
    omega
set_option maxRecDepth 100000 in
theorem RowsA.val {w : World} {B : Nat} {v : Value} {es : List (Int × Int)} (h : RowsA w B v es) : (v = .slice none 0 0 ∧ es = []) ∨ ∃ g c, v = .slice (some ⟨g, 0, none⟩) es.length c ∧ es.length ≤ c ∧ B ≤ g ∧ BlkF w g (es.length * 2) (fun o => (apL es).getD o undef) := by
  have h0 := h
  obtain ⟨_, h2⟩ := h
  rcases h2 with ⟨rfl, h2⟩ | ⟨g, cap, cur, rfl, hg, hh, hc, hm, hs, ht⟩
  · exact .inl ⟨rfl, List.length_eq_zero_iff.1 h2⟩
  · have hl : g < w.heap.size := (World.ownsRow.lt h0 g rfl).2
    refine .inr ⟨g, cap, rfl, hc, hg, hl, fun o => World.ownsRow.frozenAt h0 o, fun o ho => ?_⟩
    rw [World.ownsRow.cellAt h0 o (by omega)]
    obtain ⟨x, hx⟩ := at_of_lt (xs := apL es) (k := o) (by rw [apL_len]; exact ho)
    rw [hx]; simp [List.getD, hx]
set_option maxRecDepth 100000 in
theorem RowsA.rd {w : World} {B : Nat} {v : Value} {es : List (Int × Int)} (h : RowsA w B v es) : ∃ a c, v = .slice a es.length c ∧ RdP w a es := by
  rcases h.val with ⟨rfl, rfl⟩ | ⟨g, c, rfl, hc, hg, hB⟩
  · exact ⟨none, 0, rfl, fun hne => absurd rfl hne⟩
  · refine ⟨_, _, rfl, fun _ => ⟨g, 0, rfl, fun j x hx => ?_⟩⟩
    have hl := lt_of_at hx
    obtain ⟨c0, c1⟩ := apL_at hx
    constructor
    · rw [Nat.zero_add, hB.cell _ (by omega)]
      simp [List.getD, c0]
    · rw [Nat.zero_add, hB.cell _ (by omega)]
      simp [List.getD, c1]
set_option maxRecDepth 100000 in
theorem run_appA {w : World} (B : Nat) (ty : TypeId) (v : Value) (es : List (Int × Int)) (e : Int × Int) (gx : Nat) (hown : RowsA w B v es) (hB : B ≤ w.heap.size) (hc0 : w.cell? ⟨gx, 0, none⟩ = some (.int .i64 e.1)) (hc1 : w.cell? ⟨gx, 1, none⟩ = some (.int .i64 e.2)) (hlen : es.length ≤ 100000) :
    ∃ v' w', (Builtin.append_ #[23, 23] ty #[v, .slice (some ⟨gx, 0, none⟩) 1 1]).run Try.prog w = .ok v' w' ∧ RowsA w' B v' (es ++ [e]) ∧ w.grownBy w' v.ownBlock ∧ Fresh w v v' := by
  obtain ⟨i0, hi, hz0, hz1, hz2⟩ := info_parts info_ap
  obtain ⟨v', w', hr, h1, h2, h3⟩ := run_append_any (P := Try.prog) w B 23 ty 41 i0 (.agg #[.int .i64 0, .int .i64 0]) 2 16 Try.underlying23 hi hz0 hz1 hz2 rfl (by decide) v es.length _ hown (some ⟨gx, 0, none⟩) 1 1 [.int .i64 e.1, .int .i64 e.2] rfl
    (fun _ => ⟨_, rfl, fun j u hj => by
      match j, hj with
      | 0, hj => simp at hj; subst hj; simpa [Addr.add] using hc0
      | 1, hj => simp at hj; subst hj; simpa [Addr.add] using hc1⟩)
    (fun u hu => by
      simp at hu
      rcases hu with rfl | rfl <;> rfl) (by unfold maxLen; omega) (by omega) hB
  refine ⟨v', w', hr, ?_, h2, h3⟩
  unfold RowsA
  rw [apL_snoc, List.length_append]
  exact h1
set_option maxRecDepth 100000 in
theorem oper_appAK {o : Oper} {a : Act} {K : World → Act → Prop} {R : World → World → Prop} (B : Nat) (w3 : World) (s x : Operand)
    (ho : o.op = .call { callee := .builtin .append, args := #[s, x], argTypes := #[23, 23] }) (v : Value) (es : List (Int × Int)) (e : Int × Int) (gx : Nat) (hs : a.eval s = v) (hown : RowsA w3 B v es) (hB : B ≤ w3.heap.size)
    (hx : a.eval x = .slice (some ⟨gx, 0, none⟩) 1 1) (hc0 : w3.cell? ⟨gx, 0, none⟩ = some (.int .i64 e.1)) (hc1 : w3.cell? ⟨gx, 1, none⟩ = some (.int .i64 e.2)) (hlen : es.length ≤ 100000)
    (h : ∀ v' w', RowsA w' B v' (es ++ [e]) → w3.grownBy w' v.ownBlock → Fresh w3 v v' → R w3 w' ∧ K w' (a.put o.dst v')) : o.wp Try.prog a w3 (fun a' w' => R w3 w' ∧ K w' a') NoExit := by
  obtain ⟨v', w', hr, h1, h2, h3⟩ := run_appA B o.type v es e gx hown hB hc0 hc1 hlen
  unfold Oper.wp execOp
  simp only [ho, resolve, invoke, builtin, Sem.run_bind, Sem.run_pure, Result.andThen_ok, List.map_toArray, List.map_cons, List.map_nil, hs, hx, hr]
  exact h v' w' h1 h2 h3
def zeroA : Nat → Value := fun o => (#[Value.int .i64 0, .slice none 0 0] : Array Value).getD o undef

set_option maxRecDepth 100000 in
set_option maxHeartbeats 4000000 in
theorem adraw_spec (w : World) (g : Nat) (hC : Cur w g) :
    Calls Try.prog 86 #[.pointer (some ⟨g, 0, none⟩)] w fun e w' => ∃ (n : Nat) (v : Value), e = .returned (.agg #[.int .i64 n, v]) ∧ 1 ≤ n ∧ n ≤ 5 ∧ ∃ es, RowsA w' w.heap.size v es ∧ es.length ≤ 5 ∧ (∀ x ∈ es, ∃ s : Nat, x.1 = s ∧ s < 2 ^ n ∧ 1 ≤ x.2 ∧ x.2 ≤ 6) ∧ Cur w' g ∧ Only g w w' := by
  have HCu := hide hC
  have hgl := hC.lt
  clear hC
  have p0 := BlkF.new w #[.int .i64 0, .slice none 0 0] 25
  have hE1 := Ext.new w (.cells #[.int .i64 0, .slice none 0 0] 25)
  have hs1 : (w.alloc (.cells #[.int .i64 0, .slice none 0 0] 25)).heap.size = w.heap.size + 1 := by simp
  go_enter Try.func86, Try.ntmps86
  go_wp2_with fail
  generalize w.alloc (.cells #[.int .i64 0, .slice none 0 0] 25) = w1 at p0 hE1 hs1 ⊢
  refine (below_spec w1 g 5 (HCu.out.ext hE1) (by decide) (by decide)).mono ?_
  rintro e w2 ⟨x, rfl, hx, hC2, hO2⟩
  have hP2 := hO2.blk p0 (by omega)
  have hO := (Only.of_ext (g := g) hE1).trans hO2
  have hs2 := hO2.size
  obtain ⟨n, hn, n1, n5⟩ : ∃ n : Nat, 1 + (x : Int) = n ∧ 1 ≤ n ∧ n ≤ 5 := ⟨1 + x, by omega, by omega, by omega⟩
  clear p0 hE1 hO2
  have hB := (BlkF.new w2 #[.int .i64 n, .slice none 0 0] 25).congr (f' := boxF n (.slice none 0 0)) (fun o ho => by
    match o, ho with
    | 0, _ => rfl
    | 1, _ => rfl)
  have hE2 := Ext.new w2 (.cells #[.int .i64 n, .slice none 0 0] 25)
  have hlt := hB.lt
  have hgl2 := hC2.lt
  have HN := hide hn
  go_wp2_with fail
  generalize w2.alloc (.cells #[.int .i64 n, .slice none 0 0] 25) = W0 at hB hE2 hlt ⊢
  clear hn
  have hP := hP2.ext hE2
  have hOW := hO.trans (Only.of_ext hE2)
  obtain ⟨H, hH⟩ : ∃ H : Nat, H = W0.heap.size := ⟨_, rfl⟩
  rw [← hH] at hlt
  have hHs : H ≤ W0.heap.size := by omega
  obtain ⟨b, hb⟩ : ∃ b : Nat, b = w2.heap.size := ⟨_, rfl⟩
  rw [← hb] at hB hlt hs2 hgl2 ⊢
  have hbw : w.heap.size < b := by omega
  have hgb : g < b := hgl2
  have hCW := hC2.ext hE2
  clear hH hb hs1 hs2 hP2 hO hC2 hE2 hgl2
  refine (below_spec W0 g 6 hCW (by decide) (by decide)).mono ?_
  rintro e w3 ⟨y, rfl, hy, hC3, hO3⟩
  have hB3 := hO3.blk hB (by omega)
  have hP3 := hO3.blk hP (by omega)
  have hO := hOW.trans hO3
  have hHs := Nat.le_trans hHs hO3.size
  clear hB hP hCW hOW hO3 HCu
  go_wp2_with fail
  go_loopw [4, 5] (fun i _ wr => ∃ (k : Nat) (v : Value) (es : List (Int × Int)), i = .int .i64 k ∧ k + es.length ≤ 5 ∧ Hid (BlkF wr b 2 (boxF n v)) ∧ Hid (BlkF wr w.heap.size 2 zeroA) ∧ Hid (RowsA wr H v es) ∧ Hid (∀ x ∈ es, ∃ s : Nat, x.1 = s ∧ s < 2 ^ n ∧ 1 ≤ x.2 ∧ x.2 ≤ 6) ∧ Hid (Cur wr g) ∧ H ≤ wr.heap.size ∧ Only g w wr) (fun i _ _ => (intOf i).toNat)
  case atStart => exact ⟨y, _, [], rfl, by simp; omega, hB3, hP3, RowsA.nil _ _, (fun x hx => by simp at hx), hC3, hHs, hO⟩
  case round =>
    clear hB3 hP3 hC3 hHs hO
    obtain ⟨k, v, es, rfl, hke, HB, HP, HL, HV, HC, hHs, hO⟩ := hrel
    by_cases hk0 : 0 < k
    · have hk1 : (0 : Int) < (k : Int) := by omega
      obtain ⟨N, hN, N1, N32⟩ : ∃ N : Nat, 2 ^ n = N ∧ 1 ≤ N ∧ N ≤ 32 := ⟨2 ^ n, rfl, Nat.two_pow_pos n, p5 n5⟩
      have HN2 := hide hN
      have HD : Hid (∀ W, Cur W g → Calls Try.prog 178 #[.pointer (some ⟨g, 0, none⟩), .int .i64 N] W fun e w' => ∃ x : Nat, e = .returned (.int .i64 x) ∧ x < N ∧ Cur w' g ∧ Only g W w') := hide (fun W hW => below_spec W g N hW N1 (by omega))
      have b0 : wr.cell? ⟨b, 0, none⟩ = some (.int .i64 n) := HB.out.cell 0 (by omega)
      have hsh : wrap64 (2 ^ n) = (N : Int) := by
        have e : ((2 : Int) ^ n) = (N : Int) := by rw [pow_int, hN]
        rw [e]
        exact IntWalk.wrap64_in _ (by omega)
      clear hN
      go_wp2_with fail
      refine (HD.out _ HC.out).mono ?_
      rintro e w3 ⟨s, rfl, hs, hC3, hO3⟩
      have hB3 := hO3.blk HB.out (by omega)
      have hP3 := hO3.blk HP.out (by omega)
      have hL3 := HL.out.only (by omega) hO3
      have b1 : w3.cell? ⟨b, 1, none⟩ = some v := hB3.cell 1 (by omega)
      have HC3 := hide hC3
      have HB3 := hide hB3
      have HP3 := hide hP3
      have HL3 := hide hL3
      have hHs3 := Nat.le_trans hHs hO3.size
      have hO4 := hO.trans hO3
      clear hC3 hO3 hB3 hP3 hL3 HB HP HL HC HD hO b0 hsh
      go_wp2
      refine wp_region_K (H := b) (late := [0, 1]) (by kernel_rfl) (by kernel_rfl) ?_
      refine wpK_stepQL (.pointer (some ⟨b, 1, none⟩)) rfl (fun wq hwq => ?_) (fun K hK0 => ?_)
      · go_simp
        exact ⟨Ext.refl _, rfl⟩
      refine hK0 _ ?_
      clear hK0 K
      refine wpK_stepQL v rfl (fun wq hwq => ?_) (fun K hK0 => ?_)
      · have b1q := hwq.keep (p := ⟨b, 1, none⟩) rfl b1
        go_simp
        exact ⟨Ext.refl _, rfl⟩
      refine hK0 _ ?_
      clear hK0 K
      repeat' (refine wpK_stepQ rfl (fun K hK => ?_)
               go_simp
               try (rw [if_neg (by intro h; simp [undef] at h)])
               try split
               all_goals
                 first
                 | (refine hK _ ?_
                    clear hK K)
                 | (apply Exists.intro
                    refine ⟨fun wq hwq => ?_, hK _ ?_⟩
                    · have hcq := hwq.cellS
                      go_simp
                      first
                      | exact ⟨Ext.refl _, rfl⟩
                    clear hK K))
      refine wpK_stepC rfl (by kernel_rfl) (fun K hK' wq hwq => ?_)
      go_simp
      refine (below_spec wq g 6 (HC3.out.ext hwq) (by decide) (by decide)).mono ?_
      rintro e w4 ⟨z, rfl, hz, hC4, hO5⟩
      refine ⟨Sam.grown hO5 (by intro e; injection e with e; omega), hK' _ _ ?_⟩
      clear hK' K
      have hB4 := hO5.blk (HB3.out.ext hwq) (by omega)
      have hP4 := hO5.blk (HP3.out.ext hwq) (by omega)
      have hL4 := (HL3.out.ext hwq).only (by omega) hO5
      have hO6 := (hO4.trans (Only.of_ext hwq)).trans hO5
      have hHs4 := Nat.le_trans hHs3 (Nat.le_trans hwq.size hO5.size)
      have HB4 := hide hB4
      have HP4 := hide hP4
      have HL4 := hide hL4
      have HC4 := hide hC4
      have y1 : IntKind.i64.wrap (1 + (z : Int)) = 1 + (z : Int) := IntWalk.i64_in _ (by omega)
      clear hB4 hP4 hL4 hC4 hwq hO5 HB3 HP3 HL3 HC3 hO4 b1 hHs3
      repeat' (refine wpK_stepQ rfl (fun K hK => ?_)
               go_simp
               try (rw [if_neg (by intro h; simp [undef] at h)])
               try split
               all_goals
                 first
                 | (refine hK _ ?_
                    clear hK K)
                 | (apply Exists.intro
                    refine ⟨fun wq hwq => ?_, hK _ ?_⟩
                    · have hcq := hwq.cellS
                      go_simp
                      first
                      | exact ⟨Ext.refl _, rfl⟩
                    clear hK K))
      refine wpK_stepS rfl (by kernel_rfl) (fun K hK wq hwq => ?_)
      go_simp
      refine ⟨(by repeat (first | exact Ext.refl _ | assumption | refine Ext.alloc ?_ _ | refine Ext.drew ?_ | refine Ext.trans ?_ (by assumption))), hK _ _ ?_⟩
      clear hK K
      refine wpK_stepC rfl (by kernel_rfl) (fun K hK' wa hwa => ?_)
      refine Eq.mpr (if_pos rfl) ?_
      have hEa : Ext w4 wa := (hwq.alloc _).trans hwa
      have hLa := HL4.out.ext hEa
      have hro : ∀ q, v.ownBlock = some q → H ≤ q := fun q hq => (World.ownsRow.lt hLa q hq).1
      refine oper_appAK (R := Sam b) H wa _ _ rfl v es ((s : Int), 1 + (z : Int)) _ rfl hLa (Nat.le_trans hHs4 hEa.size) rfl (hwa.keep (new0 wq _ _ _)) (hwa.keep (new1 wq _ _ _ _)) (by omega) ?_
      intro v' w5 hown5 hg5 hf5
      refine ⟨Sam.grown hg5 (fun e => by have := hro b e; omega), ?_⟩
      have hB5 := (HB4.out.ext hEa).grown hg5 (fun q hq => by have := hro q hq; omega)
      have hP5 := (HP4.out.ext hEa).grown hg5 (fun q hq => by have := hro q hq; omega)
      have hC5 := (HC4.out.ext hEa).grown hg5 (fun q hq => by have := hro q hq; omega)
      have hO7 := (hO6.trans (Only.of_ext hEa)).grown hg5 (fun q hq => by have := hro q hq; omega)
      have hHs5 := Nat.le_trans hHs4 (Nat.le_trans hEa.size hg5.size)
      have z1 := hB5.fr 1
      have d1 : w5.cell? ⟨b, 1, none⟩ = some v := hB5.cell 1 (by omega)
      obtain ⟨av, nv, cv, rfl⟩ : ∃ av nv cv, v' = .slice av nv cv := by
        obtain ⟨av, cv, h, _⟩ := hown5.rd
        exact ⟨_, _, _, h⟩
      have HB5 := hide hB5
      have HP5 := hide hP5
      have HL5 := hide hown5
      have HC5 := hide hC5
      have HV5 : Hid (∀ x ∈ es ++ [((s : Int), 1 + (z : Int))], ∃ s : Nat, x.1 = s ∧ s < 2 ^ n ∧ 1 ≤ x.2 ∧ x.2 ≤ 6) := fun x hx => by
        rcases List.mem_append.1 hx with hx | hx
        · exact HV.out x hx
        · simp only [List.mem_singleton] at hx
          subst hx
          exact ⟨s, rfl, by rw [HN2.out]; exact hs, by show 1 ≤ 1 + (z : Int); omega, by show 1 + (z : Int) ≤ 6; omega⟩
      clear hLa hro hown5 hg5 hf5 hB5 hP5 hC5 hEa hwa hwq HB4 HP4 HL4 HC4 hO6 hHs4 y1
      refine hK' _ _ ?_
      clear hK' K
      repeat' (refine wpK_stepQ rfl (fun K hK => ?_)
               go_simp
               try (rw [if_neg (by intro h; simp [undef] at h)])
               try split
               all_goals
                 first
                 | (refine hK _ ?_
                    clear hK K)
                 | (apply Exists.intro
                    refine ⟨fun wq hwq => ?_, hK _ ?_⟩
                    · have hcq := hwq.cellS
                      go_simp
                      first
                      | exact ⟨Ext.refl _, rfl⟩
                    clear hK K))
      refine wpK_stepL rfl (by kernel_rfl) (by kernel_rfl) (by kernel_rfl) (fun K hK wz hwz => ?_)
      have hcz := hwz.cellS
      have hfz := hwz.frozenS
      go_simp
      refine hK _ _ ?_
      clear hK K
      go_wp2
      have hOb : Only b wz (wz.setCell ⟨b, 1, none⟩ (.slice av nv cv)) := (Only.refl b wz).setCell 1 _
      refine ⟨⟨k - 1, _, es ++ [((s : Int), 1 + (z : Int))], congrArg (Value.int .i64) (by omega), by rw [List.length_append]; simp; omega, hide ?_, hide (hOb.blk (HP5.out.ext hwz) (by omega)), hide ((HL5.out.ext hwz).only hlt hOb), HV5, hide ((HC5.out.ext hwz).only (by omega) hOb), ?_, ?_⟩, by simp [intOf]; omega⟩
      · refine ((HB5.out.ext hwz).set 1 (by omega) _).congr (fun o ho => ?_)
        match o, ho with
        | 0, _ => rfl
        | 1, _ => rfl
      · exact Nat.le_trans hHs5 (Nat.le_trans hwz.size hOb.size)
      · exact (hO7.trans (Only.of_ext hwz)).fresh (setCell_row wz b 1 _) (by omega)
    · have hk1 : ¬ (0 : Int) < (k : Int) := by omega
      have r0 : wr.cell? ⟨w.heap.size, 0, none⟩ = some (.int .i64 0) := HP.out.cell 0 (by omega)
      have r1 : wr.cell? ⟨w.heap.size, 1, none⟩ = some (.slice none 0 0) := HP.out.cell 1 (by omega)
      have z0 := HP.out.fr 0
      have z1 := HP.out.fr 1
      have b0 : wr.cell? ⟨b, 0, none⟩ = some (.int .i64 n) := HB.out.cell 0 (by omega)
      have b1 : wr.cell? ⟨b, 1, none⟩ = some v := HB.out.cell 1 (by omega)
      obtain ⟨av, cv, rfl, hRv⟩ := HL.out.rd
      have HRv := hide hRv
      clear hRv
      go_wp2
      have hOw : Only w.heap.size wr ((wr.setCell ⟨w.heap.size, 0, none⟩ (.int .i64 n)).setCell ⟨w.heap.size, 1, none⟩ (.slice av es.length cv)) := ((Only.refl _ wr).setCell 0 _).setCell 1 _
      refine bodyPost_ret (v := .agg #[.int .i64 n, .slice av es.length cv]) (by simp [results, Try.results86, go_sem, r0, r1]) rfl ⟨n, _, rfl, n1, n5, es, (HL.out.only (by omega) hOw).base (by omega), by omega, fun p q hpq => HV.out (p, q) hpq, HC.out.only (by omega) hOw, (hO.fresh (setCell_row wr w.heap.size 0 (.int .i64 n)) (Nat.le_refl _)).fresh (setCell_row _ w.heap.size 1 (.slice av es.length cv)) (Nat.le_refl _)⟩

set_option maxRecDepth 100000 in
set_option maxHeartbeats 2000000 in
theorem mkapr_spec (w : World) (a : Option Addr) (c n : Nat) (bs : List Int) (hR : RdY w a bs) (hl : bs.length ≤ 1048576) (hn : n ≤ 1000) :
    Calls Try.prog 10 #[.slice a bs.length c, .int .i64 n] w fun e w' => ∃ (m : Nat) (a2 : Option Addr) (es : List (Int × Int)) (c2 : Nat), e = .returned (.agg #[.int .i64 m, .slice a2 es.length c2]) ∧ 1 ≤ m ∧ m ≤ 5 ∧ RdP w' a2 es ∧ es.length ≤ 5 ∧ appOk m es = true ∧ (∀ x ∈ es, x.2 ≤ 6) ∧ Ext w w' := by
  have p0 := BlkF.new w #[.int .i64 0, .slice none 0 0] 25
  have hE1 := Ext.new w (.cells #[.int .i64 0, .slice none 0 0] 25)
  have hs1 : (w.alloc (.cells #[.int .i64 0, .slice none 0 0] 25)).heap.size = w.heap.size + 1 := by simp
  go_enter Try.func10, Try.ntmps10
  go_wp2_with fail
  generalize w.alloc (.cells #[.int .i64 0, .slice none 0 0] 25) = w0 at p0 hE1 hs1 ⊢
  refine (lnew_spec _ a c n bs (hR.ext hE1) hl hn).mono ?_
  rintro e w1 ⟨g, rfl, hg, hC, hw1⟩
  have p1 := p0.ext hw1
  have hE := hE1.trans hw1
  have hbl := p0.lt
  clear p0 hE1 hw1
  go_wp2_with fail
  refine (adraw_spec w1 g hC).mono ?_
  rintro e w2 ⟨m, v, rfl, m1, m5, es, hL, hel, hV, hC2, hO2⟩
  have p2 := hO2.blk p1 (by omega)
  have hE2 := Only.ext hE hO2 (by omega)
  obtain ⟨av, cv, rfl, hRv⟩ := hL.rd
  have hAO : appOk m es = true := by
    unfold appOk
    rw [inR_iff.2 (show 1 ≤ (m : Int) ∧ (m : Int) ≤ 6 by omega), decide_eq_true (show es.length ≤ 12 by omega), Bool.true_and, Bool.true_and, List.all_eq_true]
    intro x hx
    obtain ⟨s, e1, e2, e3, e4⟩ := hV x hx
    unfold balOk
    have ht : topOf (m : Int) + 1 = ((2 ^ m : Nat) : Int) := top_nat
    rw [inR_iff.2 (show 0 ≤ x.1 ∧ x.1 ≤ topOf m by omega), inR_iff.2 (show 1 ≤ x.2 ∧ x.2 ≤ 1000 by omega)]
    rfl
  have r0 := p2.cell 0 (by simp)
  have r1 := p2.cell 1 (by simp)
  have z0 := p2.fr 0
  have z1 := p2.fr 1
  have hLw := hL
  have hw1s := hO2.size
  have hgb : w.heap.size < w1.heap.size := p1.lt
  have HF := hide (⟨hAO, fun x hx => by obtain ⟨s, _, _, _, h⟩ := hV x hx; exact h⟩ : appOk m es = true ∧ ∀ x ∈ es, x.2 ≤ 6)
  have hOw : Only w.heap.size w2 ((w2.setCell ⟨w.heap.size, 0, none⟩ (.int .i64 m)).setCell ⟨w.heap.size, 1, none⟩ (.slice av es.length cv)) := ((Only.refl _ w2).setCell 0 _).setCell 1 _
  have hLf := hLw.only (by omega) hOw
  have HRD := hide (And.intro hLf (Only.ext hE2 hOw (Nat.le_refl _)))
  clear hL hV hC2 hO2 hLw hOw hLf hAO hRv hE2 hC hE p1 p2
  go_wp2
  obtain ⟨a2, c2, e2, hRf⟩ := HRD.out.1.rd
  injection e2 with e2 e3 e4
  subst e2
  subst e4
  exact bodyPost_ret (v := .agg #[.int .i64 m, .slice av es.length cv]) (by simp [results, Try.results10, go_sem, r0, r1]) rfl ⟨m, av, es, cv, rfl, m1, m5, hRf, hel, HF.out.1, HF.out.2, HRD.out.2⟩

def sgnA (x y : Int) : Int := if x < y then -1 else if y < x then 1 else 0
set_option maxRecDepth 100000 in
set_option maxHeartbeats 1000000 in
theorem isnanA_impl (w : World) (x : Int) : Calls Try.prog 183 #[.int .i64 x] w fun e w' => e = .returned (.bool false) ∧ Ext w w' := by
  go_enter Try.func183, Try.ntmps183
  go_wp2
  go_ret
  exact ⟨ret_bool (by simp), Ext.refl _⟩
set_option maxRecDepth 100000 in
set_option maxHeartbeats 1000000 in
theorem cmpA_impl (w : World) (x y : Int) : Calls Try.prog 104 #[.int .i64 x, .int .i64 y] w fun e w' => e = .returned (.int .i64 (sgnA x y)) ∧ Ext w w' := by
  by_cases h1 : x < y
  · go_enter Try.func104, Try.ntmps104
    go_wp2_with (go_at_call 183; refine (isnanA_impl _ _).mono ?_; rintro e w1 ⟨rfl, hw1⟩)
    go_ret
    exact ⟨ret_int (by simp [sgnA, h1]), (by repeat (first | exact Ext.refl _ | assumption | refine Ext.alloc ?_ _ | refine Ext.drew ?_ | refine Ext.trans ?_ (by assumption)))⟩
  · by_cases h2 : y < x
    · go_enter Try.func104, Try.ntmps104
      go_wp2_with (go_at_call 183; refine (isnanA_impl _ _).mono ?_; rintro e w1 ⟨rfl, hw1⟩)
      go_ret
      exact ⟨ret_int (by simp [sgnA, h1, h2]), (by repeat (first | exact Ext.refl _ | assumption | refine Ext.alloc ?_ _ | refine Ext.drew ?_ | refine Ext.trans ?_ (by assumption)))⟩
    · go_enter Try.func104, Try.ntmps104
      go_wp2_with (go_at_call 183; refine (isnanA_impl _ _).mono ?_; rintro e w1 ⟨rfl, hw1⟩)
      go_ret
      exact ⟨ret_int (by unfold sgnA; rw [if_neg (by omega), if_neg (by omega)]), (by repeat (first | exact Ext.refl _ | assumption | refine Ext.alloc ?_ _ | refine Ext.drew ?_ | refine Ext.trans ?_ (by assumption)))⟩
set_option maxRecDepth 100000 in
theorem fr_mul (s : Nat) : frT s * Nat.gcd s 60 = s ∧ frB s * Nat.gcd s 60 = 60 := ⟨Nat.div_mul_cancel (Nat.gcd_dvd_left _ _), Nat.div_mul_cancel (Nat.gcd_dvd_right _ _)⟩
set_option maxRecDepth 100000 in
/-- Fractions of sixty are compared as their tops. -/
theorem fr_cmp (p q : Nat) : sgnA ((frT p : Int) * (frB q : Int)) ((frT q : Int) * (frB p : Int)) = sgnA p q := by
  have hp := fr_mul p
  have hq := fr_mul q
  have gp : 1 ≤ Nat.gcd p 60 := Nat.gcd_pos_of_pos_right _ (by decide)
  have gq : 1 ≤ Nat.gcd q 60 := Nat.gcd_pos_of_pos_right _ (by decide)
  have e1 : (frT p * frB q) * (Nat.gcd p 60 * Nat.gcd q 60) = p * 60 := by
    rw [Nat.mul_mul_mul_comm, hp.1, hq.2]
  have e2 : (frT q * frB p) * (Nat.gcd p 60 * Nat.gcd q 60) = q * 60 := by
    rw [Nat.mul_comm (Nat.gcd p 60), Nat.mul_mul_mul_comm, hq.1, hp.2]
  have hg : 0 < Nat.gcd p 60 * Nat.gcd q 60 := Nat.mul_pos gp gq
  rw [← Int.natCast_mul, ← Int.natCast_mul]
  generalize frT p * frB q = A at e1 ⊢
  generalize frT q * frB p = B at e2 ⊢
  generalize Nat.gcd p 60 * Nat.gcd q 60 = G at e1 e2 hg
  have h1 : A < B ↔ p < q := by
    rw [← Nat.mul_lt_mul_right hg, e1, e2]
    omega
  have h2 : B < A ↔ q < p := by
    rw [← Nat.mul_lt_mul_right hg, e1, e2]
    omega
  unfold sgnA
  simp only [Int.ofNat_lt, h1, h2]

set_option maxRecDepth 100000 in
set_option maxHeartbeats 2000000 in
theorem cmpf_impl (w : World) (p q : Nat) (hp : p ≤ 5000000) (hq : q ≤ 5000000) :
    Calls Try.prog 20 #[.agg #[.int .i64 (frT p : Nat), .int .i64 (frB p : Nat)], .agg #[.int .i64 (frT q : Nat), .int .i64 (frB q : Nat)]] w fun e w' => e = .returned (.int .i64 (sgnA p q)) ∧ Ext w w' := by
  have HF1 := hide (fun W => fracOk_impl W p hp)
  have HF2 := hide (fun W => fracOk_impl W q hq)
  have HC : Hid (∀ W, Calls Try.prog 104 #[.int .i64 ((frT p : Int) * (frB q : Int)), .int .i64 ((frT q : Int) * (frB p : Int))] W fun e w' => e = .returned (.int .i64 (sgnA p q)) ∧ Ext W w') := hide (fun W => by
    have h := cmpA_impl W ((frT p : Int) * (frB q : Int)) ((frT q : Int) * (frB p : Int))
    rw [fr_cmp] at h
    exact h)
  obtain ⟨_, _, a1, a2, a3, _⟩ := fr_bd hp
  obtain ⟨_, _, b1, b2, b3, _⟩ := fr_bd hq
  have m1 : (frT p : Int) * (frB q : Int) ≤ 5000000 * 60 := Int.mul_le_mul (by omega) (by omega) (by omega) (by omega)
  have m2 : (frT q : Int) * (frB p : Int) ≤ 5000000 * 60 := Int.mul_le_mul (by omega) (by omega) (by omega) (by omega)
  have m3 : 0 ≤ (frT p : Int) * (frB q : Int) := Int.mul_nonneg (by omega) (by omega)
  have m4 : 0 ≤ (frT q : Int) * (frB p : Int) := Int.mul_nonneg (by omega) (by omega)
  have HY : Hid (wrap64 ((frT p : Int) * (frB q : Int)) = (frT p : Int) * (frB q : Int) ∧ wrap64 ((frT q : Int) * (frB p : Int)) = (frT q : Int) * (frB p : Int)) := hide ⟨IntWalk.wrap64_in _ (by omega), IntWalk.wrap64_in _ (by omega)⟩
  clear m1 m2 m3 m4
  generalize frT p = x1 at *
  generalize frB p = x2 at *
  generalize frT q = x3 at *
  generalize frB q = x4 at *
  have q0 := new0 w (.int .i64 x1) [.int .i64 x2] 35
  have q1 := new1 w (.int .i64 x1) (.int .i64 x2) [] 35
  have hE := Ext.new w (.cells #[.int .i64 x1, .int .i64 x2] 35)
  have r0 := new0 (w.alloc (.cells #[.int .i64 x1, .int .i64 x2] 35)) (.int .i64 x3) [.int .i64 x4] 35
  have r1 := new1 (w.alloc (.cells #[.int .i64 x1, .int .i64 x2] 35)) (.int .i64 x3) (.int .i64 x4) [] 35
  have hE2 := Ext.new (w.alloc (.cells #[.int .i64 x1, .int .i64 x2] 35)) (.cells #[.int .i64 x3, .int .i64 x4] 35)
  have hs0 : (w.alloc (.cells #[.int .i64 x1, .int .i64 x2] 35)).heap.size = w.heap.size + 1 := by simp
  rw [hs0] at r0 r1
  clear hs0
  have q0 := hE2.keep q0
  have q1 := hE2.keep q1
  have hw := hE.trans hE2
  go_enter Try.func20, Try.ntmps20
  go_wp2_with fail
  refine (HF1.out _).mono ?_
  rintro e w1 ⟨rfl, hw1⟩
  have q0 := hw1.keep q0
  have q1 := hw1.keep q1
  have r0 := hw1.keep r0
  have r1 := hw1.keep r1
  have hw := hw.trans hw1
  clear hw1 hE hE2
  go_wp2_with fail
  refine (HF2.out _).mono ?_
  rintro e w2 ⟨rfl, hw2⟩
  have q0 := hw2.keep q0
  have q1 := hw2.keep q1
  have r0 := hw2.keep r0
  have r1 := hw2.keep r1
  have hw := hw.trans hw2
  clear hw2 HF1 HF2
  obtain ⟨y1, y2⟩ := HY.out
  go_wp2_with fail
  refine (HC.out _).mono ?_
  rintro e w3 ⟨rfl, hw3⟩
  go_wp2
  go_ret
  exact ⟨rfl, hw.trans hw3⟩

def Bd (xs : List Int) : Prop := ∀ x ∈ xs, -1000000000000 ≤ x ∧ x ≤ 1000000000000
set_option maxRecDepth 100000 in
theorem sum_at {xs : List Int} {k : Nat} {x : Int} (h : xs[k]? = some x) : (xs.take (k + 1)).sum = (xs.take k).sum + x := by rw [take_at h, List.sum_append]; simp
set_option maxRecDepth 100000 in
theorem sum_bd {xs : List Int} (h : Bd xs) : ∀ k, k ≤ xs.length → -1000000000000 * (k : Int) ≤ (xs.take k).sum ∧ (xs.take k).sum ≤ 1000000000000 * (k : Int)
  | 0, _ => by simp
  | k + 1, hk => by
    obtain ⟨x, hx⟩ := at_of_lt (xs := xs) (k := k) (by omega)
    have ih := sum_bd h k (by omega)
    have h2 := h x (List.mem_of_getElem? hx)
    rw [sum_at hx]
    omega

set_option maxRecDepth 100000 in
set_option maxHeartbeats 1000000 in
theorem sum_law (w : World) (a : Option Addr) (n c : Nat) (xs : List Int) (hn : n = xs.length) (hR : RdI w a xs) (hl : xs.length ≤ 1000) (hb : Bd xs) :
    Calls Try.prog 39 #[.slice a n c] w fun e w' => e = .returned (.int .i64 xs.sum) ∧ Ext w w' := by
  subst hn
  have HB := hide hb
  clear hb
  go_enter Try.func39, Try.ntmps39
  go_wp2_with fail
  go_loopw [3, 5, 8] (fun s _ i wr => ∃ k : Nat, k ≤ xs.length ∧ i = .int .i64 k ∧ s = .int .i64 (xs.take k).sum ∧ Ext w wr) (fun _ _ i _ => xs.length - (intOf i).toNat)
  case atStart => exact ⟨0, Nat.zero_le _, rfl, by simp, Ext.refl _⟩
  case round =>
    obtain ⟨k, hk, rfl, rfl, hwr⟩ := hrel
    by_cases hkt : k < xs.length
    · obtain ⟨x, hx⟩ := at_of_lt hkt
      obtain ⟨b, off, rfl, c0⟩ := (hR.ext hwr).at_ hx
      have h1 := sum_bd HB.out k hk
      have h2 := HB.out x (List.mem_of_getElem? hx)
      have HN := hide (sum_at hx)
      have HW : Hid (wrap64 ((xs.take k).sum + x) = (xs.take k).sum + x) := hide (IntWalk.wrap64_in _ (by omega))
      clear hx
      generalize (xs.take k).sum = S at h1 HN HW ⊢
      go_wp2
      exact ⟨⟨k + 1, by omega, by go_num, by rw [HN.out], hwr⟩, by simp [intOf]; omega⟩
    · have HN : Hid ((xs.take k).sum = xs.sum) := hide (by rw [List.take_of_length_le (by omega)])
      go_wp2
      go_ret
      exact ⟨ret_int HN.out, hwr⟩

set_option maxRecDepth 100000 in
set_option maxHeartbeats 1000000 in
theorem count_law (w : World) (a : Option Addr) (n c : Nat) (xs : List Int) (x : Int) (hn : n = xs.length) (hR : RdI w a xs) (hl : xs.length ≤ 1000) :
    Calls Try.prog 98 #[.slice a n c, .int .i64 x] w fun e w' => e = .returned (.int .i64 (xs.countP (fun y => y == x) : Nat)) ∧ Ext w w' := by
  subst hn
  go_enter Try.func98, Try.ntmps98
  go_wp2_with fail
  go_loopw [5, 7, 10] (fun s _ i wr => ∃ k : Nat, k ≤ xs.length ∧ i = .int .i64 k ∧ s = .int .i64 ((xs.take k).countP (fun y => y == x) : Nat) ∧ Ext w wr) (fun _ _ i _ => xs.length - (intOf i).toNat)
  case atStart => exact ⟨0, Nat.zero_le _, rfl, rfl, Ext.refl _⟩
  case round =>
    obtain ⟨k, hk, rfl, rfl, hwr⟩ := hrel
    have hc := List.countP_le_length (p := fun y => y == x) (l := xs.take k)
    rw [List.length_take] at hc
    by_cases hkt : k < xs.length
    · obtain ⟨y, hy⟩ := at_of_lt hkt
      obtain ⟨b, off, rfl, c0⟩ := (hR.ext hwr).at_ hy
      have HN : Hid ((xs.take (k + 1)).countP (fun y => y == x) = (xs.take k).countP (fun y => y == x) + if (y == x) = true then 1 else 0) := hide (by rw [take_at hy, List.countP_append, List.countP_cons, List.countP_nil]; simp)
      clear hy
      cases hq : (y == x)
      all_goals
        rw [hq] at HN
        go_wp2
        refine ⟨⟨k + 1, by omega, by go_num, ?_, hwr⟩, by simp [intOf]; omega⟩
        rw [HN.out]
        simp
    · have HN : Hid ((xs.take k).countP (fun y => y == x) = xs.countP (fun y => y == x)) := hide (by rw [List.take_of_length_le (by omega)])
      go_wp2
      go_ret
      exact ⟨ret_int (by rw [HN.out]), hwr⟩

set_option maxRecDepth 100000 in
set_option maxHeartbeats 1000000 in
theorem has_law (w : World) (a : Option Addr) (n c : Nat) (xs : List Int) (x : Int) (hn : n = xs.length) (hR : RdI w a xs) (hl : xs.length ≤ 1000) :
    Calls Try.prog 17 #[.slice a n c, .int .i64 x] w fun e w' => e = .returned (.bool (hasI xs x)) ∧ Ext w w' := by
  have HC := hide (count_law w a n c xs x hn hR hl)
  clear hR hn
  go_enter Try.func17, Try.ntmps17
  go_wp2_with fail
  refine HC.out.mono ?_
  rintro e w1 ⟨rfl, hw1⟩
  go_wp2
  go_ret
  exact ⟨ret_bool (by rw [Bool.eq_iff_iff, decide_eq_true_iff, hasI_iff]), hw1⟩

set_option maxRecDepth 100000 in
set_option maxHeartbeats 1000000 in
theorem same_law (w : World) (a a2 : Option Addr) (n n2 c c2 : Nat) (xs : List Int) (hn : n = xs.length) (hn2 : n2 = xs.length) (hR : RdI w a xs) (hR2 : RdI w a2 xs) (hl : xs.length ≤ 1000) :
    Calls Try.prog 47 #[.slice a n c, .slice a2 n2 c2] w fun e w' => e = .returned (.bool true) ∧ Ext w w' := by
  subst hn
  subst hn2
  go_enter Try.func47, Try.ntmps47
  go_wp2_with fail
  go_loopw [5, 6, 14] (fun _ _ i wr => ∃ k : Nat, k ≤ xs.length ∧ i = .int .i64 k ∧ Ext w wr) (fun _ _ i _ => xs.length - (intOf i).toNat)
  case atStart => exact ⟨0, Nat.zero_le _, rfl, Ext.refl _⟩
  case round =>
    obtain ⟨k, hk, rfl, hwr⟩ := hrel
    by_cases hkt : k < xs.length
    · obtain ⟨x, hx⟩ := at_of_lt hkt
      obtain ⟨b, off, rfl, c0⟩ := (hR.ext hwr).at_ hx
      obtain ⟨b2, off2, rfl, c1⟩ := (hR2.ext hwr).at_ hx
      clear hx
      go_wp2
      exact ⟨⟨k + 1, by omega, by go_num, hwr⟩, by simp [intOf]; omega⟩
    · go_wp2
      go_ret
      exact ⟨rfl, hwr⟩

end Go.Proofs.Ythiojkpoeejkaaa
