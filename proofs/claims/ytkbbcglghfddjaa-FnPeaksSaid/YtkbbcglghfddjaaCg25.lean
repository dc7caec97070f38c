/- Single-peaked profiles that a code is. Small helpers of the laws: sum, count, has, same. Contracts of calls, told short: values, lists, margins. -/
import Derived.Test.YtkbbcglghfddjaaCg19
import Derived.Test.YtkbbcglghfddjaaCg21
import Derived.Test.YtkbbcglghfddjaaCg11
import Derived.Test.YtkbbcglghfddjaaCg23
import Derived.Test.YtkbbcglghfddjaaCg24
import Derived.Test.YtkbbcglghfddjaaCg1
import Derived.Test.YtkbbcglghfddjaaCg6
import Derived.Test.YtkbbcglghfddjaaCg10
namespace Go.Proofs.Ytkbbcglghfddjaa
open Go.RowKit

set_option maxRecDepth 100000 in
theorem RowsE.only {w w' : World} {B g : Nat} {v : Value} {es : List RowE} (h : RowsE w B v es) (hg : g < B) (hw : Only g w w') : RowsE w' B v es := by
  refine World.ownsRow.kept h hw ?_
  cases hv : v.ownBlock with
  | none => exact .inl rfl
  | some k =>
    refine .inr (fun e => ?_)
    injection e with e
    have := (World.ownsRow.lt h k hv).1
    omega
set_option maxRecDepth 100000 in
theorem wpList_oneF {ops : Array Oper} {rest : List Oper} {o : Oper} {a : Act} {Q : Exit → Act → World → Prop} (B : Nat) (w3 : World) (hgd : o.guard = none) (s x : Operand)
    (ho : o.op = .call { callee := .builtin .append, args := #[s, x], argTypes := #[35, 35] }) (v : Value) (es : List RowE) (e : RowE) (hs : a.eval s = v) (hown : RowsE w3 B v es) (hB : B ≤ w3.heap.size)
    (gx : Nat) (hgx : gx = w3.heap.size) (hx : a.eval x = .slice (some ⟨gx, 0, none⟩) 1 1) (hlen : es.length ≤ 1000000)
    (h : ∀ v' w', RowsE w' B v' (es ++ [e]) → w3.grownBy w' v.ownBlock → Fresh w3 v v' → wpList Try.prog ops Q rest (a.put o.dst v') w') : wpList Try.prog ops Q (o :: rest) a (w3.alloc (.cells #[rowV e] 31)) := by
  subst hgx
  refine wpList_appE B _ hgd s x ho v es [e] hs (hown.ext (Ext.new _ _)) (by simp; omega) _ _ _ (by simp) hx (RdE.box w3 e) (by simp; omega) ?_
  intro v' w' h3 h4 h5
  refine h v' w' h3 ⟨h4.os, h4.tape, h4.output, Nat.le_trans (by simp) h4.size, fun k hk hne => (h4.block k (by simp; omega) hne).trans (Below.block (Ext.new w3 (.cells #[rowV e] 31)) k hk)⟩ ?_
  rcases h5 with h5 | h5
  · exact .inl h5
  · exact .inr (fun k hk => by have := h5 k hk; simp at this; omega)

set_option maxRecDepth 100000 in
set_option maxHeartbeats 4000000 in
theorem pkr_spec (w : World) (n : Nat) (a : Option Addr) (c : Nat) (ax : List Int) (n1 : 1 ≤ n) (n5 : n ≤ 5) (hR : RdI w a ax) (ha : rkOk n ax = true) :
    Calls Try.prog 79 #[.slice a n c] w fun e w' => ∃ v es, e = .returned v ∧ RowsE w' w.heap.size v es ∧ es.map RowE.xs = (allO n).filter (pkO ax) ∧ (∀ e ∈ es, OwnI w' w.heap.size (rowV e) e.xs) ∧ Ext w w' := by
  have hal : ax.length = n := by have := (rk_len ha).1; omega
  have HI : Hid (∀ W, Ext w W → Calls Try.prog 88 #[.int .i64 n, .slice a n c] W fun e w' => e = .returned (.bool true) ∧ Ext W w') := hide (fun W hW => by
    have h := rank_spec W n a c ax (hR.ext hW)
    rw [ha, hal] at h
    exact h)
  have HPK : Hid (∀ W (r : List Int) a3 c3, Ext w W → rkOk n r = true → RdI W a3 r → r.length ≤ c3 → Calls Try.prog 90 #[.slice a3 r.length c3, .slice a n c] W fun e w' => e = .returned (.bool (pkO ax r)) ∧ Ext W w') := hide (fun W r a3 c3 hW hr hRr hc3 => by
    have hl := (rk_len hr)
    cases r with
    | nil => simp at hl; omega
    | cons x t =>
      simp only [List.length_cons] at hl
      have h := pk_spec W a3 a c3 c x t ax hRr hc3 (by omega) (hR.ext hW) (by omega)
      rw [hal] at h
      exact h)
  have hpos : 0 < (allO n).length := by
    obtain ⟨r, hr⟩ := allO_ne n1 n5
    exact List.length_pos_of_mem hr
  clear ha hal
  go_enter Try.func79, Try.ntmps79
  go_wp2_with (go_at_call 88; refine (HI.out _ (by repeat (first | exact Ext.refl _ | assumption | refine Ext.alloc ?_ _ | refine Ext.drew ?_ | refine Ext.trans ?_ (by assumption)))).mono ?_; rintro e w1 ⟨rfl, hw1⟩)
  have hO := RowsE.made0 w1
  have hE1 := Ext.new w1 (.cells #[] 31)
  have hs1 : (w1.alloc (.cells #[] 31)).heap.size = w1.heap.size + 1 := by simp
  have hww1 : Ext w w1 := (by repeat (first | exact Ext.refl _ | assumption | refine Ext.alloc ?_ _ | refine Ext.drew ?_ | refine Ext.trans ?_ (by assumption)))
  generalize w1.alloc (.cells #[] 31) = W1 at hO hE1 hs1 ⊢
  refine (allR_spec _ n n1 n5).mono ?_
  rintro e w2 ⟨v, rfl, hv, hw2⟩
  have HM : Hid (∀ r ∈ allO n, rkOk n r = true) := fun r hr => (allO_mem n1 n5).1 hr
  have hrl : (allO n).length ≤ 3125 := Nat.le_trans (allS_len n5 n []) (Nat.pow_le_pow_right (n := 5) (by decide) n5)
  obtain ⟨rows, hrows⟩ : ∃ rows, rows = allO n := ⟨_, rfl⟩
  rw [← hrows] at hv HM hrl hpos
  have HRW := hide hrows
  clear hrows
  have hv := hv.wr
  obtain ⟨av, cv, rfl, _, hm4⟩ := hv
  obtain ⟨gq, us, rfl, hMat⟩ := hm4 (List.ne_nil_of_length_pos hpos)
  have hws : w.heap.size ≤ w1.heap.size := hww1.size
  obtain ⟨S0, hS0⟩ : ∃ S0 : Nat, S0 = W1.heap.size := ⟨_, rfl⟩
  obtain ⟨S4, hS4⟩ : ∃ S4 : Nat, S4 = w2.heap.size := ⟨_, rfl⟩
  rw [← hS0] at hMat
  have hS04 : S0 ≤ S4 := by rw [hS0, hS4]; exact hw2.size
  have hS4' : S4 ≤ w2.heap.size := by omega
  have hS4'' : w2.heap.size ≤ S4 := by omega
  have hs10 : w1.heap.size + 1 ≤ S0 := by omega
  have hs11 : w1.heap.size ≤ w2.heap.size := by omega
  have hOx := hO.ext hw2
  have hE12 := hE1.trans hw2
  have HOB : Hid (∀ b, (Value.slice (some ⟨w1.heap.size, 0, none⟩) 0 0).ownBlock = some b → b < S0 ∨ S4 ≤ b) := hide (fun b hb => by
    simp only [Value.ownBlock, Option.some.injEq] at hb
    omega)
  clear hS0 hm4 hE1 hO hs1 hw1
  obtain ⟨wd, hwd⟩ : ∃ wd : World, wd = w2 := ⟨_, rfl⟩
  subst hwd
  clear hS4
  go_wp2_with fail
  go_loopw [3, 5, 16] (fun v _ i wr => ∃ (k : Nat) (es : List RowE), k ≤ rows.length ∧ i = .int .i64 k ∧ RowsE wr w1.heap.size v es ∧ Hid (es.map RowE.xs = (rows.take k).filter (pkO ax)) ∧ Hid (∀ e ∈ es, ∃ j, rowV e = us j ∧ rows[j]? = some e.xs) ∧ Hid (∀ b, v.ownBlock = some b → b < S0 ∨ S4 ≤ b) ∧ Keeps S0 S4 wd wr ∧ S4 ≤ wr.heap.size ∧ Ext w1 wr) (fun _ _ i _ => rows.length - (intOf i).toNat)
  case atStart => exact ⟨0, [], Nat.zero_le _, rfl, hOx, hide rfl, hide (fun e he => by simp at he), HOB, Keeps.refl _ _ _, hS4', hE12⟩
  case round =>
    clear hOx hE12 HOB
    obtain ⟨k, es, hk, rfl, hown, HES, HUS, HOB, hKp, hSr, hwr⟩ := hrel
    have hMr := hMat.keeps hKp hS4''
    by_cases hkt : k < rows.length
    · obtain ⟨r, hr⟩ := at_of_lt hkt
      have hrow := hMr.row k hkt
      rw [show rows.getD k [] = r by simp [List.getD, hr]] at hrow
      obtain ⟨a3, c4, hu, hc4, _, hRr, _⟩ := hrow.val
      have d0 := hMr.outer.cell k hkt
      rw [hu] at d0
      have hrk := HM.out r (List.mem_of_getElem? hr)
      have HC := hide (HPK.out wr r a3 c4 (hww1.trans hwr) hrk hRr hc4)
      have hel : es.length ≤ k := by
        have h1 := congrArg List.length HES.out
        have h2 := List.length_filter_le (pkO ax) (rows.take k)
        rw [List.length_map] at h1
        rw [List.length_take] at h2
        omega
      have HST : Hid ((rows.take (k + 1)).filter (pkO ax) = (rows.take k).filter (pkO ax) ++ if pkO ax r then [r] else []) := hide (by
        rw [take_at hr, List.filter_append, List.filter_cons, List.filter_nil])
      have HR := hide hr
      have HU := hide hu
      have HOW := hide hown
      have HKP := hide hKp
      clear hr hrk hRr hown hu hrow hMr hKp
      cases hm : pkO ax r
      · rw [hm] at HC HST
        go_wp2_with fail
        refine HC.out.mono ?_
        rintro e w3 ⟨rfl, hw3⟩
        go_wp2
        exact ⟨⟨k + 1, es, by omega, by go_num, HOW.out.ext hw3, hide (by rw [HST.out, HES.out]; simp), HUS, HOB, HKP.out.ext hw3 hSr, Nat.le_trans hSr hw3.size, hwr.trans hw3⟩, by simp [intOf]; omega⟩
      · rw [hm] at HC HST
        clear hm
        go_wp2_with fail
        refine HC.out.mono ?_
        rintro e w3 ⟨rfl, hw3⟩
        have hwr3 := hwr.trans hw3
        have hS3 := Nat.le_trans hSr hw3.size
        go_wp2_with (at_builtin; go_loud (refine wpList_oneF w1.heap.size w3 rfl (.tmp 23) (.tmp 25) rfl _ es ⟨a3, r.length, c4, r⟩ rfl (by exact HOW.out.ext hw3) (Ext.size hwr3) _ rfl rfl (by omega) ?_); intro v' w5 hown5 hg5 hf5)
        exact ⟨⟨k + 1, es ++ [⟨a3, r.length, c4, r⟩], by omega, by go_num, hown5, hide (by rw [HST.out, ← HES.out]; simp), hide (fun e he => by
          rcases List.mem_append.1 he with he | he
          · exact HUS.out e he
          · rw [List.mem_singleton] at he
            subst he
            exact ⟨k, HU.out.symm, HR.out⟩), hide (hf5.out HOB.out hS3), (HKP.out.ext hw3 hSr).grown hg5 hS3 HOB.out, Nat.le_trans hS3 hg5.size, hwr3.grown hg5 (fun b hb => (World.ownsRow.lt (HOW.out.ext hw3) b hb).1)⟩, by simp [intOf]; omega⟩
    · have hkr : rows.take k = rows := List.take_of_length_le (by omega)
      rw [hkr] at HES
      have HEO : Hid (∀ e ∈ es, OwnI wr w.heap.size (rowV e) e.xs) := hide (fun e he => by
        obtain ⟨j, e1, e2⟩ := HUS.out e he
        have hrow := hMr.row j (lt_of_at e2)
        rw [show rows.getD j [] = e.xs by simp [List.getD, e2], ← e1] at hrow
        exact hrow.base (by omega))
      clear hkr hMr
      go_wp2
      go_ret
      exact ⟨_, es, rfl, hown.base hws, (by rw [← HRW.out]; exact HES.out), HEO.out, hww1.trans hwr⟩

/-- What a drawn single-peaked profile is. -/
def PkD (w w' : World) (g m : Nat) (u : Value) (aa : Option Addr) (ca : Nat) : Prop := ∃ (ax : List Int) (es : List (RowE × Int)), 1 ≤ m ∧ m ≤ 5 ∧ rkOk m ax = true ∧ m ≤ ca ∧ OwnI w' w.heap.size (.slice aa m ca) ax ∧ RowsV w' w.heap.size u es ∧ es.length ≤ 5 ∧
  (∀ x ∈ es, OwnI w' w.heap.size (rowV x.1) x.1.xs ∧ x.1.xs ∈ (allO m).filter (pkO ax) ∧ 1 ≤ x.2 ∧ x.2 ≤ 6) ∧ Cur w' g ∧ Only g w w'

set_option maxRecDepth 100000 in
set_option maxHeartbeats 8000000 in
theorem pdraw_spec (w : World) (g : Nat) (hC : Cur w g) :
    Calls Try.prog 53 #[.pointer (some ⟨g, 0, none⟩)] w fun e w' => ∃ (m : Nat) (u : Value) (aa : Option Addr) (ca : Nat), e = .returned (.tuple #[.agg #[.int .i64 m, u], .slice aa m ca]) ∧ PkD w w' g m u aa ca := by
  have HCu := hide hC
  have hgl := hC.lt
  clear hC
  have p0 := BlkF.new w #[.int .i64 0, .slice none 0 0] 26
  have hE1 := Ext.new w (.cells #[.int .i64 0, .slice none 0 0] 26)
  have hs1 : (w.alloc (.cells #[.int .i64 0, .slice none 0 0] 26)).heap.size = w.heap.size + 1 := by simp
  go_enter Try.func53, Try.ntmps53
  go_wp2_with fail
  generalize w.alloc (.cells #[.int .i64 0, .slice none 0 0] 26) = w1 at p0 hE1 hs1 ⊢
  refine (below_spec w1 g 5 (HCu.out.ext hE1) (by decide) (by decide)).mono ?_
  rintro e w2 ⟨x, rfl, hx, hC2, hO2⟩
  have hP2 := hO2.blk p0 (by omega)
  have hsw2 : w.heap.size + 1 ≤ w2.heap.size := by rw [← hs1]; exact hO2.size
  have hOw2 := (Only.of_ext (g := g) hE1).trans hO2
  obtain ⟨m, hm⟩ : ∃ m : Nat, m = x + 1 := ⟨_, rfl⟩
  have m1 : 1 ≤ m := by omega
  have m5 : m ≤ 5 := by omega
  have y1 : wrap64 (1 + (x : Int)) = (m : Int) := by rw [IntWalk.wrap64_in _ (by omega)]; omega
  clear hm hx p0 hE1 hs1 hO2 HCu
  go_wp2_with fail
  rw [y1]
  clear y1
  refine (draw_spec w2 g m hC2 m1 m5).mono ?_
  rintro e w3 ⟨v, rfl, ax, hax, hrk, hC3, hO3⟩
  have hal : ax.length = m := by have := (rk_len hrk).1; omega
  obtain ⟨aa, ca, rfl, hca, _, hRa, _⟩ := hax.val
  rw [hal] at hax hca ⊢
  have HCA := hide hca
  have HAX := hide hax
  have HRK := hide hrk
  have hP3 := hO3.blk hP2 (by omega)
  have hOw3 := hOw2.trans hO3
  have hsw3 := Nat.le_trans hsw2 hO3.size
  have hg2 : g < w2.heap.size := by omega
  clear hal hca hax hC2 hO3 hP2 hOw2
  go_wp2_with fail
  refine (pkr_spec w3 m aa ca ax m1 m5 hRa HRK.out).mono ?_
  rintro e w4 ⟨v4, es0, rfl, hr0, hm0, ho0, hw4⟩
  have hlen0 : es0.length = 2 ^ (m - 1) := by
    have h1 := congrArg List.length hm0
    rw [List.length_map, pk_count HRK.out m1 m5] at h1
    exact h1
  have h16 : 2 ^ (m - 1) ≤ 2 ^ 4 := Nat.pow_le_pow_right (by decide) (by omega)
  have h01 : 1 ≤ 2 ^ (m - 1) := Nat.pow_pos (by decide)
  have hl1 : 1 ≤ es0.length := by omega
  have hl2 : es0.length ≤ 256 := by omega
  obtain ⟨a0, c0, rfl, _, _, hq0⟩ := hr0.val
  obtain ⟨gq, rfl, _, _⟩ := hq0 (List.ne_nil_of_length_pos hl1)
  have HR0 := hide hr0
  have HM0 := hide hm0
  have HO0 := hide ho0
  have HAX4 := hide (HAX.out.ext hw4)
  have hP4 := hP3.ext hw4
  have hC4 := hC3.ext hw4
  have hOw4 := hOw3.trans (Only.of_ext hw4)
  have hsw4 := Nat.le_trans hsw3 hw4.size
  have hg3 : g < w3.heap.size := by omega
  have h34 := hw4.size
  clear hlen0 h16 h01 hq0 hr0 hm0 ho0 HAX hP3 hC3 hOw3 hw4 hrk hRa
  go_wp2_with fail
  have hB := (BlkF.new w4 #[.int .i64 m, .slice none 0 0] 26).congr (f' := boxF m (.slice none 0 0)) (fun o ho => by
    match o, ho with
    | 0, _ => rfl
    | 1, _ => rfl)
  have hE2 := Ext.new w4 (.cells #[.int .i64 m, .slice none 0 0] 26)
  have hlt := hB.lt
  generalize w4.alloc (.cells #[.int .i64 m, .slice none 0 0] 26) = W0 at hB hE2 hlt ⊢
  obtain ⟨H, hH⟩ : ∃ H : Nat, H = W0.heap.size := ⟨_, rfl⟩
  rw [← hH] at hlt
  have hHs : H ≤ W0.heap.size := by omega
  obtain ⟨b, hb⟩ : ∃ b : Nat, b = w4.heap.size := ⟨_, rfl⟩
  rw [← hb] at hB hlt ⊢
  have hbw : w.heap.size < b := by omega
  have hb4 : w4.heap.size ≤ b := by omega
  have hgb : g < b := by omega
  have hB := hB.congr (f' := boxF m (.slice none 0 0)) (fun _ _ => rfl)
  clear hH hb
  refine (below_spec W0 g 6 (hC4.ext hE2) (by decide) (by decide)).mono ?_
  rintro e w5 ⟨x, rfl, hx, hC5, hO5⟩
  have hB2 := hO5.blk hB (by omega)
  have hP2 := hO5.blk (hP4.ext hE2) (by omega)
  have hO := (Only.of_ext (g := g) hE2).trans hO5
  have hHs := Nat.le_trans hHs hO5.size
  clear hB hP4 hE2 hO5 hC4
  go_wp2_with fail
  go_loopw [8, 9] (fun i _ wr => ∃ (k : Nat) (v : Value) (es : List (RowE × Int)), i = .int .i64 k ∧ k + es.length ≤ 5 ∧ Hid (BlkF wr b 2 (boxF m v)) ∧ Hid (BlkF wr w.heap.size 2 zeroP) ∧ Hid (RowsV wr H v es) ∧ Hid (∀ x ∈ es, x.1 ∈ es0 ∧ 1 ≤ x.2 ∧ x.2 ≤ 6) ∧ Hid (Cur wr g) ∧ H ≤ wr.heap.size ∧ Only g w4 wr) (fun i _ _ => (intOf i).toNat)
  case atStart => exact ⟨x, _, [], rfl, by simp; omega, hB2, hP2, RowsV.nil _ _, (fun x hx => by simp at hx), hC5, hHs, hO⟩
  case round =>
    clear hB2 hP2 hC5 hHs hO
    obtain ⟨k, v, es, rfl, hke, HB, HP, HL, HV, HC, hHs, hO⟩ := hrel
    by_cases hk0 : 0 < k
    · have hk1 : (0 : Int) < (k : Int) := by omega
      have HD := hide (below_spec wr g es0.length HC.out hl1 hl2)
      go_wp2_with fail
      refine HD.out.mono ?_
      rintro e w3 ⟨q, rfl, hq, hC3, hO3⟩
      obtain ⟨e0, he0⟩ := at_of_lt hq
      obtain ⟨g9, hg9, d0⟩ := (HR0.out.only hg3 (hO.trans hO3)).at_ he0
      injection hg9 with hg9
      injection hg9 with hg9
      subst hg9
      have HEM := hide (List.mem_of_getElem? he0)
      have hB3 := hO3.blk HB.out (by omega)
      have hP3 := hO3.blk HP.out (by omega)
      have hL3 := HL.out.only (by omega) hO3
      have b1 : w3.cell? ⟨b, 1, none⟩ = some v := hB3.cell 1 (by omega)
      have hgw3 : g < wr.heap.size := HC.out.lt
      have HC3 := hide hC3
      have HB3 := hide hB3
      have HP3 := hide hP3
      have HL3 := hide hL3
      have hHs3 := Nat.le_trans hHs hO3.size
      have hO4 := hO.trans hO3
      clear hC3 hO3 hB3 hP3 hL3 HB HP HL HC HD hO he0
      go_wp2
      refine wp_region_K (H := b) (late := [0, 1]) (by kernel_rfl) (by kernel_rfl) ?_
      refine wpK_stepQL (.pointer (some ⟨b, 1, none⟩)) rfl (fun wq hwq => ?_) (fun K hK0 => ?_)
      · go_simp
        exact ⟨Ext.refl _, rfl⟩
      refine hK0 _ ?_
      clear hK0 K
      refine wpK_stepQL v rfl (fun wq hwq => ?_) (fun K hK0 => ?_)
      · have b1q := hwq.keep (p := ⟨b, 1, none⟩) rfl b1
        go_simp
        exact ⟨Ext.refl _, rfl⟩
      refine hK0 _ ?_
      clear hK0 K
      repeat' (refine wpK_stepQ rfl (fun K hK => ?_)
               go_simp
               try (rw [if_neg (by intro h; simp [undef] at h)])
               try split
               all_goals
                 first
                 | (refine hK _ ?_
                    clear hK K)
                 | (apply Exists.intro
                    refine ⟨fun wq hwq => ?_, hK _ ?_⟩
                    · have hcq := hwq.cellS
                      go_simp
                      first
                      | exact ⟨Ext.refl _, rfl⟩
                    clear hK K))
      refine wpK_stepC rfl (by kernel_rfl) (fun K hK' wq hwq => ?_)
      go_simp
      refine (below_spec wq g 5 (HC3.out.ext hwq) (by decide) (by decide)).mono ?_
      rintro e w4' ⟨y, rfl, hy, hC4, hO5⟩
      refine ⟨Sam.grown hO5 (by intro e; injection e with e; omega), hK' _ _ ?_⟩
      clear hK' K
      have hB4 := hO5.blk (HB3.out.ext hwq) (by omega)
      have hP4 := hO5.blk (HP3.out.ext hwq) (by omega)
      have hL4 := (HL3.out.ext hwq).only (by omega) hO5
      have hO6 := (hO4.trans (Only.of_ext hwq)).trans hO5
      have hHs4 := Nat.le_trans hHs3 (Nat.le_trans hwq.size hO5.size)
      have HB4 := hide hB4
      have HP4 := hide hP4
      have HL4 := hide hL4
      have HC4 := hide hC4
      have hgw4 : g < w4'.heap.size := hC4.lt
      have y1 : IntKind.i64.wrap (1 + (y : Int)) = 1 + (y : Int) := IntWalk.i64_in _ (by omega)
      clear hB4 hP4 hL4 hC4 hwq hO5 HB3 HP3 HL3 HC3 hO4 b1 hHs3 d0
      repeat' (refine wpK_stepQ rfl (fun K hK => ?_)
               go_simp
               try (rw [if_neg (by intro h; simp [undef] at h)])
               try split
               all_goals
                 first
                 | (refine hK _ ?_
                    clear hK K)
                 | (apply Exists.intro
                    refine ⟨fun wq hwq => ?_, hK _ ?_⟩
                    · have hcq := hwq.cellS
                      go_simp
                      first
                      | exact ⟨Ext.refl _, rfl⟩
                    clear hK K))
      refine wpK_stepS rfl (by kernel_rfl) (fun K hK wq hwq => ?_)
      go_simp
      refine ⟨(by repeat (first | exact Ext.refl _ | assumption | refine Ext.alloc ?_ _ | refine Ext.drew ?_ | refine Ext.trans ?_ (by assumption))), hK _ _ ?_⟩
      clear hK K
      refine wpK_stepC rfl (by kernel_rfl) (fun K hK' wa hwa => ?_)
      refine Eq.mpr (if_pos rfl) ?_
      have hEa : Ext w4' wa := (hwq.alloc _).trans hwa
      have hLa := HL4.out.ext hEa
      have hro : ∀ q, v.ownBlock = some q → H ≤ q := fun q hq => (World.ownsRow.lt hLa q hq).1
      refine oper_appVK (R := Sam b) H wa _ _ rfl v es (e0, 1 + (y : Int)) _ rfl hLa (Nat.le_trans hHs4 hEa.size) rfl (hwa.keep (new0 wq _ _ _)) (hwa.keep (new1 wq _ _ _ _)) (by omega) ?_
      intro v' w5 hown5 hg5 hf5
      refine ⟨Sam.grown hg5 (fun e => by have := hro b e; omega), ?_⟩
      have hB5 := (HB4.out.ext hEa).grown hg5 (fun q hq => by have := hro q hq; omega)
      have hP5 := (HP4.out.ext hEa).grown hg5 (fun q hq => by have := hro q hq; omega)
      have hC5 := (HC4.out.ext hEa).grown hg5 (fun q hq => by have := hro q hq; omega)
      have hO7 := (hO6.trans (Only.of_ext hEa)).grown hg5 (fun q hq => by have := hro q hq; omega)
      have hHs5 := Nat.le_trans hHs4 (Nat.le_trans hEa.size hg5.size)
      have z1 := hB5.fr 1
      have d1 : w5.cell? ⟨b, 1, none⟩ = some v := hB5.cell 1 (by omega)
      obtain ⟨av, nv, cv, rfl⟩ : ∃ av nv cv, v' = .slice av nv cv := by
        rcases hown5.val with ⟨h, _⟩ | ⟨g9, c9, h, _⟩
        · exact ⟨_, _, _, h⟩
        · exact ⟨_, _, _, h⟩
      have HB5 := hide hB5
      have HP5 := hide hP5
      have HL5 := hide hown5
      have HC5 := hide hC5
      have HV5 : Hid (∀ x ∈ es ++ [(e0, 1 + (y : Int))], x.1 ∈ es0 ∧ 1 ≤ x.2 ∧ x.2 ≤ 6) := fun x hx => by
        rcases List.mem_append.1 hx with hx | hx
        · exact HV.out x hx
        · simp only [List.mem_singleton] at hx
          subst hx
          exact ⟨HEM.out, by show 1 ≤ 1 + (y : Int); omega, by show 1 + (y : Int) ≤ 6; omega⟩
      clear hLa hro hown5 hg5 hf5 hB5 hP5 hC5 hEa hwa hwq HB4 HP4 HL4 HC4 hO6 hHs4 y1
      refine hK' _ _ ?_
      clear hK' K
      repeat' (refine wpK_stepQ rfl (fun K hK => ?_)
               go_simp
               try (rw [if_neg (by intro h; simp [undef] at h)])
               try split
               all_goals
                 first
                 | (refine hK _ ?_
                    clear hK K)
                 | (apply Exists.intro
                    refine ⟨fun wq hwq => ?_, hK _ ?_⟩
                    · have hcq := hwq.cellS
                      go_simp
                      first
                      | exact ⟨Ext.refl _, rfl⟩
                    clear hK K))
      refine wpK_stepL rfl (by kernel_rfl) (by kernel_rfl) (by kernel_rfl) (fun K hK wz hwz => ?_)
      have hcz := hwz.cellS
      have hfz := hwz.frozenS
      go_simp
      refine hK _ _ ?_
      clear hK K
      go_wp2
      have hOb : Only b wz (wz.setCell ⟨b, 1, none⟩ (.slice av nv cv)) := (Only.refl b wz).setCell 1 _
      refine ⟨⟨k - 1, .slice av nv cv, es ++ [(e0, 1 + (y : Int))], congrArg (Value.int .i64) (by omega), by rw [List.length_append]; simp; omega, hide ?_, hide (hOb.blk (HP5.out.ext hwz) (by omega)), hide ((HL5.out.ext hwz).only hlt hOb), HV5, hide ((HC5.out.ext hwz).only (by omega) hOb), ?_, ?_⟩, by simp [intOf]; omega⟩
      · refine ((HB5.out.ext hwz).set 1 (by omega) _).congr (fun o ho => ?_)
        match o, ho with
        | 0, _ => rfl
        | 1, _ => rfl
      · exact Nat.le_trans hHs5 (Nat.le_trans hwz.size hOb.size)
      · exact (hO7.trans (Only.of_ext hwz)).fresh (setCell_row wz b 1 _) (by omega)
    · have hk1 : ¬ (0 : Int) < (k : Int) := by omega
      have r0 : wr.cell? ⟨w.heap.size, 0, none⟩ = some (.int .i64 0) := HP.out.cell 0 (by omega)
      have r1 : wr.cell? ⟨w.heap.size, 1, none⟩ = some (.slice none 0 0) := HP.out.cell 1 (by omega)
      have z0 := HP.out.fr 0
      have z1 := HP.out.fr 1
      have b0 : wr.cell? ⟨b, 0, none⟩ = some (.int .i64 m) := HB.out.cell 0 (by omega)
      have b1 : wr.cell? ⟨b, 1, none⟩ = some v := HB.out.cell 1 (by omega)
      obtain ⟨av, nv, cv, rfl⟩ : ∃ av nv cv, v = .slice av nv cv := by
        rcases HL.out.val with ⟨h, _⟩ | ⟨g9, c9, h, _⟩
        · exact ⟨_, _, _, h⟩
        · exact ⟨_, _, _, h⟩
      go_wp2
      have hOw : Only w.heap.size wr ((wr.setCell ⟨w.heap.size, 0, none⟩ (.int .i64 m)).setCell ⟨w.heap.size, 1, none⟩ (.slice av nv cv)) := ((Only.refl _ wr).setCell 0 _).setCell 1 _
      refine bodyPost_ret (v := .tuple #[.agg #[.int .i64 m, .slice av nv cv], .slice aa m ca]) (by simp [results, Try.results53, go_sem, r0, r1]) rfl ⟨m, _, aa, ca, rfl, ax, es, m1, m5, HRK.out, HCA.out, ((HAX4.out.only hg2 hO).only (by omega) hOw).base (by omega), (HL.out.only (by omega) hOw).base (by omega), by omega, fun p hp => ?_, HC.out.only (by omega) hOw, ((hOw4.trans hO).fresh (setCell_row wr w.heap.size 0 (.int .i64 m)) (Nat.le_refl _)).fresh (setCell_row _ w.heap.size 1 (.slice av nv cv)) (Nat.le_refl _)⟩
      obtain ⟨h1, h2, h3⟩ := HV.out p hp
      refine ⟨(((HO0.out p.1 h1).only hg3 hO).only (by omega) hOw).base (by omega), ?_, h2, h3⟩
      rw [← HM0.out]
      exact List.mem_map_of_mem h1

/-- What MakePeaked returns. -/
def PkM (w w' : World) (m L : Nat) (a' aa : Option Addr) (c' ca : Nat) : Prop := ∃ (ax : List Int) (vs : List Vt), vs.length = L ∧ RdV w' a' vs ∧ pkpB m ax vs = true ∧ 1 ≤ vs.length ∧ vs.length ≤ 5 ∧ (∀ x ∈ vs, x.2 ≤ 6) ∧ RdI w' aa ax ∧ ax.length = m ∧ m ≤ ca ∧ L ≤ c' ∧ Ext w w'
set_option maxRecDepth 100000 in
theorem pks_ok {m : Nat} {ax : List Int} (m1 : 1 ≤ m) (m5 : m ≤ 5) (ha : rkOk m ax = true) {es : List (RowE × Int)} (hl : es.length ≤ 5) (h : ∀ x ∈ es, x.1.xs ∈ (allO m).filter (pkO ax) ∧ 1 ≤ x.2 ∧ x.2 ≤ 6) : pkpB m ax (vtsOf es) = true ∧ ∀ x ∈ vtsOf es, x.2 ≤ 6 := by
  have hlen : (vtsOf es).length = es.length := List.length_map _
  have key : ∀ x ∈ vtsOf es, (rkOk m x.1 = true ∧ pkO ax x.1 = true) ∧ 1 ≤ x.2 ∧ x.2 ≤ 6 := fun x hx => by
    obtain ⟨e, he, rfl⟩ := List.mem_map.1 hx
    obtain ⟨h1, h2⟩ := h e he
    obtain ⟨h3, h4⟩ := List.mem_filter.1 h1
    exact ⟨⟨(allO_mem m1 m5).1 h3, h4⟩, h2⟩
  refine ⟨?_, fun x hx => (key x hx).2.2⟩
  simp only [pkpB, profOk, Bool.and_eq_true, decide_eq_true_eq, List.all_eq_true]
  refine ⟨⟨inR_iff.2 (by omega), by omega, fun x hx => ?_⟩, ha, fun x hx => (key x hx).1.2⟩
  have := key x hx
  simp only [vtOk, Bool.and_eq_true]
  exact ⟨this.1.1, inR_iff.2 (by omega)⟩

set_option maxRecDepth 100000 in
set_option maxHeartbeats 8000000 in
theorem mkpk_spec (w : World) (a : Option Addr) (c n : Nat) (bs : List Int) (hR : RdY w a bs) (hl : bs.length ≤ 1048576) (hn : n ≤ 1000) :
    Calls Try.prog 18 #[.slice a bs.length c, .int .i64 n] w fun e w' => ∃ (m L : Nat) (a' aa : Option Addr) (c' ca : Nat), e = .returned (.tuple #[.agg #[.int .i64 m, .slice a' L c'], .slice aa m ca]) ∧ PkM w w' m L a' aa c' ca := by
  have p0 := BlkF.new w #[.int .i64 0, .slice none 0 0] 26
  have hE1 := Ext.new w (.cells #[.int .i64 0, .slice none 0 0] 26)
  have hs1 : (w.alloc (.cells #[.int .i64 0, .slice none 0 0] 26)).heap.size = w.heap.size + 1 := by simp
  go_enter Try.func18, Try.ntmps18
  go_wp2_with fail
  generalize w.alloc (.cells #[.int .i64 0, .slice none 0 0] 26) = wA at p0 hE1 hs1 ⊢
  refine (lnew_spec wA a c n bs (hR.ext hE1) hl hn).mono ?_
  rintro e w1 ⟨g, rfl, hg, hC, hw1⟩
  have p1 := p0.ext hw1
  have hE := hE1.trans hw1
  have hg1 : g < w1.heap.size := hC.lt
  have hgw : w.heap.size < g := by omega
  clear p0 hE1 hw1
  go_wp2_with fail
  refine (pdraw_spec w1 g hC).mono ?_
  rintro e w2 ⟨m, u, aa, ca, rfl, hD⟩
  obtain ⟨ax, es, m1, m5, hrk, hca, hax, hL, hel, hV, _, hO2⟩ := hD
  have hE2 : Ext w w2 := Only.ext hE hO2 (by omega)
  have hP2 := hO2.blk p1 (by omega)
  have hw12 := hO2.size
  obtain ⟨av, cv, rfl, hcv⟩ : ∃ av cv, u = .slice av es.length cv ∧ es.length ≤ cv := by
    rcases hL.val with ⟨h, h2⟩ | ⟨g9, c9, h, hc9, _⟩
    · rw [h2]; exact ⟨_, _, h, Nat.zero_le _⟩
    · exact ⟨_, _, h, hc9⟩
  have hal : ax.length = m := by have := (rk_len hrk).1; omega
  have hPK := pks_ok m1 m5 hrk hel (fun x hx => (hV x hx).2)
  have HPK := hide hPK
  have HCV := hide hcv
  have HRK := hide hrk
  have HV := hide hV
  have HL := hide hL
  have HAL := hide hal
  have HCA := hide hca
  have HAX := hide hax
  have hB := (BlkF.new w2 #[.int .i64 m, .slice av es.length cv] 26).congr (f' := boxF m (.slice av es.length cv)) (fun o ho => by
    match o, ho with
    | 0, _ => rfl
    | 1, _ => rfl)
  have hEB := Ext.new w2 (.cells #[.int .i64 m, .slice av es.length cv] 26)
  have hEw := hE2.trans hEB
  have p3 := hP2.ext hEB
  clear hPK hcv hrk hV hL hal hca hax p1 hP2 hO2 hE hC hE2
  by_cases hes : es = []
  · subst hes
    have hl0 : (((List.length ([] : List (RowE × Int)) : Nat) : Int) == 0) = true := rfl
    have HB := hide hB
    have HP := hide p3
    have HL3 := hide (HL.out.ext hEB)
    have HA3 := hide (HAX.out.ext hEB)
    have hb3 := hB.lt
    have b1 : (w2.alloc (.cells #[.int .i64 m, .slice av ([] : List (RowE × Int)).length cv] 26)).cell? ⟨w2.heap.size, 1, none⟩ = some (.slice av ([] : List (RowE × Int)).length cv) := hB.cell 1 (by simp)
    have hws2 : w.heap.size < w2.heap.size := by omega
    obtain ⟨b, hb⟩ : ∃ b : Nat, b = w2.heap.size := ⟨_, rfl⟩
    rw [← hb] at HB b1 hb3 hws2 hw12
    have HVB : Hid (∀ q, (Value.slice av ([] : List (RowE × Int)).length cv).ownBlock = some q → w1.heap.size ≤ q ∧ q < b) := hide (fun q hq => by
      have h1 := World.ownsRow.lt HL.out q hq
      rw [hb]
      exact h1)
    have HAB : Hid ((Value.slice aa m ca).ownBlock ≠ some b) := hide (fun e => by
      have h1 := (World.ownsRow.lt HAX.out b e).2
      omega)
    go_wp2_with fail
    rw [← hb]
    generalize w2.alloc (.cells #[.int .i64 m, .slice av ([] : List (RowE × Int)).length cv] 26) = w3 at HB HP HL3 HA3 b1 hb3 hEw ⊢
    clear hb hB p3 hEB HL HAX hl0
    refine wp_region_P [0,1,3,2,4,5,6,7,8,9] (by kernel_rfl) rfl (by kernel_rfl) ?_
    repeat' (refine wpP_stepQ rfl (fun K hK => ?_)
             go_simp
             try (rw [if_neg (by intro h; simp [undef] at h)])
             try split
             all_goals
               first
               | (refine hK _ ?_
                  clear hK K)
               | (apply Exists.intro
                  refine ⟨fun wq hwq => ?_, hK _ ?_⟩
                  · have hcq := hwq.cellS
                    go_simp
                    first
                    | exact ⟨Ext.refl _, rfl⟩
                  clear hK K))
    refine wpP_stepS rfl (by kernel_rfl) (fun K hK wq hwq => ?_)
    go_simp
    refine ⟨(by repeat (first | exact Ext.refl _ | assumption | refine Ext.alloc ?_ _ | refine Ext.drew ?_ | refine Ext.trans ?_ (by assumption))), hK _ _ ?_⟩
    clear hK K
    refine wpP_stepS rfl (by kernel_rfl) (fun K hK ws hws => ?_)
    refine Eq.mpr (if_pos rfl) ?_
    refine oper_cpyI wq ws hws _ _ rfl ax aa m ca HAL.out.symm rfl rfl ((HA3.out.ext (w' := ws) (by repeat (first | exact Ext.refl _ | assumption | refine Ext.alloc ?_ _ | refine Ext.drew ?_ | refine Ext.trans ?_ (by assumption)))).rdI) (by have := HAL.out; omega) ?_
    intro u w4 hu hw4
    refine ⟨hw4, ?_⟩
    refine hK _ _ ?_
    clear hK K
    obtain ⟨a5, n5, c5, rfl⟩ := hu.form
    have hE4 : Ext w3 w4 := (by repeat (first | exact Ext.refl _ | assumption | refine Ext.alloc ?_ _ | refine Ext.drew ?_ | refine Ext.trans ?_ (by assumption)))
    have hbq : b < wq.heap.size := by have := hwq.size; omega
    clear hwq hws hw4
    obtain ⟨wy, hwy⟩ : ∃ wy : World, wy = wq := ⟨_, rfl⟩
    subst hwy
    have HU := hide hu
    have HUB : Hid ((Value.slice a5 n5 c5).ownBlock ≠ some b) := hide (fun e => by have := (World.ownsRow.lt hu b e).1; omega)
    have h4s := hE4.size
    have hw1y : w1.heap.size ≤ wy.heap.size := by omega
    clear hu
    repeat' (refine wpP_stepQ rfl (fun K hK => ?_)
             go_simp
             try (rw [if_neg (by intro h; simp [undef] at h)])
             try split
             all_goals
               first
               | (refine hK _ ?_
                  clear hK K)
               | (apply Exists.intro
                  refine ⟨fun wq hwq => ?_, hK _ ?_⟩
                  · have hcq := hwq.cellS
                    go_simp
                    first
                    | exact ⟨Ext.refl _, rfl⟩
                  clear hK K))
    refine wpP_stepS rfl (by kernel_rfl) (fun K hK wq hwq => ?_)
    go_simp
    refine ⟨(by repeat (first | exact Ext.refl _ | assumption | refine Ext.alloc ?_ _ | refine Ext.drew ?_ | refine Ext.trans ?_ (by assumption))), hK _ _ ?_⟩
    clear hK K
    refine wpP_stepC rfl (by kernel_rfl) (fun K hK' wa hwa => ?_)
    refine Eq.mpr (if_pos rfl) ?_
    have hEa : Ext w4 wa := (by repeat (first | exact Ext.refl _ | assumption | refine Ext.alloc ?_ _ | refine Ext.drew ?_ | refine Ext.trans ?_ (by assumption)))
    have hEa3 := hE4.trans hEa
    have hLa := HL3.out.ext hEa3
    have hUa := HU.out.ext hEa
    refine oper_appV w1.heap.size wa _ _ rfl (.slice av ([] : List (RowE × Int)).length cv) [] (⟨a5, n5, c5, ax⟩, 1) _ rfl hLa (by have := hEa3.size; omega) rfl (hwa.keep (new0 wq _ _ _)) (hwa.keep (new1 wq _ _ _ _)) (by simp) ?_
    intro v' w5 hown5 hg5 hf5
    have hB5 := (HB.out.ext hEa3).grown hg5 (fun q hq => by have := HVB.out q hq; omega)
    have hP5 := (HP.out.ext hEa3).grown hg5 (fun q hq => by have := HVB.out q hq; omega)
    have hU5 := hUa.keepRow hg5 (ownV_ne hUa hLa)
    have hA5 := (HA3.out.ext hEa3).keepRow hg5 (ownV_ne (HA3.out.ext hEa3) hLa)
    have hE5 : Ext w w5 := Ext.grown (hEw.trans hEa3) hg5 (fun q hq => by have := HVB.out q hq; omega)
    have z1 := hB5.fr 1
    have d1 : w5.cell? ⟨b, 1, none⟩ = some (.slice av ([] : List (RowE × Int)).length cv) := hB5.cell 1 (by simp)
    have HNB : Hid (v'.ownBlock ≠ some b) := hide (by
      rcases hf5 with h | h
      · rw [h]; exact fun e => by have := HVB.out b e; omega
      · exact fun e => by
          have h1 := h b e
          have h3 := hEa3.size
          omega)
    obtain ⟨a7, c7, rfl, hc7⟩ : ∃ a7 c7, v' = .slice a7 1 c7 ∧ 1 ≤ c7 := by
      rcases hown5.val with ⟨h, h2⟩ | ⟨g9, c9, h, hc9, _⟩
      · simp at h2
      · exact ⟨_, _, h, by simpa using hc9⟩
    have HC7 := hide hc7
    have HB5 := hide hB5
    have HP5 := hide hP5
    have HL5 := hide hown5
    have HU5 := hide hU5
    have HA5 := hide hA5
    clear hc7 hLa hUa hown5 hg5 hf5 hB5 hP5 hU5 hA5 hEa hEa3 hwa hwq HB HP HL3 HA3 HU hE4 hEw b1
    refine hK' _ _ ?_
    clear hK' K
    repeat' (refine wpP_stepQ rfl (fun K hK => ?_)
             go_simp
             try (rw [if_neg (by intro h; simp [undef] at h)])
             try split
             all_goals
               first
               | (refine hK _ ?_
                  clear hK K)
               | (apply Exists.intro
                  refine ⟨fun wq hwq => ?_, hK _ ?_⟩
                  · have hcq := hwq.cellS
                    go_simp
                    first
                    | exact ⟨Ext.refl _, rfl⟩
                  clear hK K))
    refine wpP_stepL rfl (by kernel_rfl) (by kernel_rfl) (by kernel_rfl) (fun K hK wz hwz => ?_)
    have hcz := hwz.cellS
    have hfz := hwz.frozenS
    go_simp
    refine hK _ _ ?_
    clear hK K
    have hOb : Only b wz (wz.setCell ⟨b, 1, none⟩ (.slice a7 1 c7)) := (Only.refl b wz).setCell 1 _
    have hB7 := (HB5.out.ext hwz).set 1 (by simp) (.slice a7 1 c7)
    have hP7 := hOb.blk (HP5.out.ext hwz) (by omega)
    have hL7 : RowsV (wz.setCell ⟨b, 1, none⟩ (.slice a7 1 c7)) w1.heap.size (.slice a7 1 c7) ([] ++ [((⟨a5, n5, c5, ax⟩ : RowE), (1 : Int))]) := World.ownsRow.kept (HL5.out.ext hwz) hOb (.inr HNB.out)
    have hU7 := (HU5.out.ext hwz).keepRow hOb (.inr HUB.out)
    have hA7 := (HA5.out.ext hwz).keepRow hOb (.inr HAB.out)
    have hE7 := Only.ext (hE5.trans hwz) hOb (by omega)
    generalize wz.setCell ⟨b, 1, none⟩ (.slice a7 1 c7) = W at hB7 hP7 hL7 hU7 hA7 hE7 ⊢
    have b0 : W.cell? ⟨b, 0, none⟩ = some (.int .i64 m) := hB7.cell 0 (by simp)
    have b1 : W.cell? ⟨b, 1, none⟩ = some (.slice a7 1 c7) := hB7.cell 1 (by simp)
    have r0 : W.cell? ⟨w.heap.size, 0, none⟩ = some (.int .i64 0) := hP7.cell 0 (by simp)
    have r1 : W.cell? ⟨w.heap.size, 1, none⟩ = some (.slice none 0 0) := hP7.cell 1 (by simp)
    have z2 := hP7.fr 0
    have z3 := hP7.fr 1
    have hOw : Only w.heap.size W ((W.setCell ⟨w.heap.size, 0, none⟩ (.int .i64 m)).setCell ⟨w.heap.size, 1, none⟩ (.slice a7 1 c7)) := ((Only.refl _ _).setCell 0 _).setCell 1 _
    have hrd := RowsV.rdA (hL7.only (by omega) hOw) (fun e he => by
      simp only [List.nil_append, List.mem_singleton] at he
      subst he
      have h1 := hU7.only (g := w.heap.size) (by omega) hOw
      obtain ⟨a2, c2, hv2, hc2, _, hR2, _⟩ := h1.val
      exact ⟨a2, c2, hv2, hc2, hR2⟩)
    have hra := (hA7.only (g := w.heap.size) (by omega) hOw).rdI
    have hPK := pks_ok m1 m5 HRK.out (es := [] ++ [((⟨a5, n5, c5, ax⟩ : RowE), (1 : Int))]) (by simp) (fun x hx => by
      simp only [List.nil_append, List.mem_singleton] at hx
      subst hx
      exact ⟨List.mem_filter.2 ⟨(allO_mem m1 m5).2 HRK.out, pk_self HRK.out m1 m5⟩, by show (1 : Int) ≤ 1; omega, by show (1 : Int) ≤ 6; omega⟩)
    have HRD := hide (show PkM w _ m 1 a7 aa c7 ca from ⟨ax, _, rfl, hrd, hPK.1, Nat.le_refl 1, (show 1 ≤ 5 by omega), hPK.2, hra, HAL.out, HCA.out, HC7.out, Only.ext hE7 hOw (Nat.le_refl _)⟩)
    clear hrd hra hPK hOw hE7 hL7 hU7 hA7 hP7 hB7 HL5 HB5 HP5 HU5 HA5
    go_wp2
    exact bodyPost_ret (v := .tuple #[.agg #[.int .i64 m, .slice a7 1 c7], .slice aa m ca]) (by simp [results, Try.results18, go_sem, r0, r1]) rfl ⟨m, 1, a7, aa, c7, ca, rfl, HRD.out⟩
  · have hlen : 1 ≤ es.length := List.length_pos_iff.2 hes
    have hl0 : ((es.length : Int) == 0) = false := by rw [beq_eq_false_iff_ne]; omega
    have r0 : (w2.alloc (.cells #[.int .i64 m, .slice av es.length cv] 26)).cell? ⟨w.heap.size, 0, none⟩ = some (.int .i64 0) := p3.cell 0 (by simp)
    have r1 : (w2.alloc (.cells #[.int .i64 m, .slice av es.length cv] 26)).cell? ⟨w.heap.size, 1, none⟩ = some (.slice none 0 0) := p3.cell 1 (by simp)
    have z0 := p3.fr 0
    have z1 := p3.fr 1
    have hOw : Only w.heap.size (w2.alloc (.cells #[.int .i64 m, .slice av es.length cv] 26)) (((w2.alloc (.cells #[.int .i64 m, .slice av es.length cv] 26)).setCell ⟨w.heap.size, 0, none⟩ (.int .i64 m)).setCell ⟨w.heap.size, 1, none⟩ (.slice av es.length cv)) := ((Only.refl _ _).setCell 0 _).setCell 1 _
    have hrd := RowsV.rdA ((HL.out.ext hEB).only (by omega) hOw) (fun e he => by
      have h1 := (((HV.out e he).1.ext hEB).only (g := w.heap.size) (by omega) hOw)
      obtain ⟨a2, c2, hv2, hc2, _, hR2, _⟩ := h1.val
      exact ⟨a2, c2, hv2, hc2, hR2⟩)
    have hra := ((HAX.out.ext hEB).only (g := w.heap.size) (by omega) hOw).rdI
    have hvl : (vtsOf es).length = es.length := List.length_map _
    have HRD := hide (show PkM w _ m es.length av aa cv ca from ⟨ax, vtsOf es, hvl, hrd, HPK.out.1, by omega, by omega, HPK.out.2, hra, HAL.out, HCA.out, HCV.out, Only.ext hEw hOw (Nat.le_refl _)⟩)
    clear hes hrd hra hvl hB hOw
    go_wp2_with fail
    exact bodyPost_ret (v := .tuple #[.agg #[.int .i64 m, .slice av es.length cv], .slice aa m ca]) (by simp [results, Try.results18, go_sem, r0, r1]) rfl ⟨m, es.length, av, aa, cv, ca, rfl, HRD.out⟩
set_option maxRecDepth 100000 in
theorem pk_count' {n L : Nat} {ax : List Int} (ha : ax ∈ (allO n).filter (pkO ax)) (n1 : 1 ≤ n) (n5 : n ≤ 5) (hL : L = 2 ^ (n - 1)) : ((allO n).filter (pkO ax)).length = L := by
  rw [hL]
  exact pk_count ((allO_mem n1 n5).1 (List.mem_filter.1 ha).1) n1 n5

def Bd (xs : List Int) : Prop := ∀ x ∈ xs, -1000000000000 ≤ x ∧ x ≤ 1000000000000
set_option maxRecDepth 100000 in
theorem sum_at {xs : List Int} {k : Nat} {x : Int} (h : xs[k]? = some x) : (xs.take (k + 1)).sum = (xs.take k).sum + x := by rw [take_at h, List.sum_append]; simp
set_option maxRecDepth 100000 in
theorem sum_bd {xs : List Int} (h : Bd xs) : ∀ k, k ≤ xs.length → -1000000000000 * (k : Int) ≤ (xs.take k).sum ∧ (xs.take k).sum ≤ 1000000000000 * (k : Int)
  | 0, _ => by simp
  | k + 1, hk => by
    obtain ⟨x, hx⟩ := at_of_lt (xs := xs) (k := k) (by omega)
    have ih := sum_bd h k (by omega)
    have h2 := h x (List.mem_of_getElem? hx)
    rw [sum_at hx]
    omega

set_option maxRecDepth 100000 in
set_option maxHeartbeats 1000000 in
theorem sum_law (w : World) (a : Option Addr) (n c : Nat) (xs : List Int) (hn : n = xs.length) (hR : RdI w a xs) (hl : xs.length ≤ 1000) (hb : Bd xs) :
    Calls Try.prog 25 #[.slice a n c] w fun e w' => e = .returned (.int .i64 xs.sum) ∧ Ext w w' := by
  subst hn
  have HB := hide hb
  clear hb
  go_enter Try.func25, Try.ntmps25
  go_wp2_with fail
  go_loopw [3, 5, 8] (fun s _ i wr => ∃ k : Nat, k ≤ xs.length ∧ i = .int .i64 k ∧ s = .int .i64 (xs.take k).sum ∧ Ext w wr) (fun _ _ i _ => xs.length - (intOf i).toNat)
  case atStart => exact ⟨0, Nat.zero_le _, rfl, by simp, Ext.refl _⟩
  case round =>
    obtain ⟨k, hk, rfl, rfl, hwr⟩ := hrel
    by_cases hkt : k < xs.length
    · obtain ⟨x, hx⟩ := at_of_lt hkt
      obtain ⟨b, off, rfl, c0⟩ := (hR.ext hwr).at_ hx
      have h1 := sum_bd HB.out k hk
      have h2 := HB.out x (List.mem_of_getElem? hx)
      have HN := hide (sum_at hx)
      have HW : Hid (wrap64 ((xs.take k).sum + x) = (xs.take k).sum + x) := hide (IntWalk.wrap64_in _ (by omega))
      clear hx
      generalize (xs.take k).sum = S at h1 HN HW ⊢
      go_wp2
      exact ⟨⟨k + 1, by omega, by go_num, by rw [HN.out], hwr⟩, by simp [intOf]; omega⟩
    · have HN : Hid ((xs.take k).sum = xs.sum) := hide (by rw [List.take_of_length_le (by omega)])
      go_wp2
      go_ret
      exact ⟨ret_int HN.out, hwr⟩

/-- A call that returns a value, from a world on. -/
def ValC (K : Nat) (args : Array Value) (W0 : World) (v : Value) : Prop := ∀ W, Ext W0 W → Calls Try.prog K args W fun e w' => e = .returned v ∧ Ext W w'
/-- A call that returns a list of numbers, from a world on. -/
def LstC (K : Nat) (args : Array Value) (W0 : World) (xs : List Int) : Prop := ∀ W, Ext W0 W → Calls Try.prog K args W fun e w' => ∃ a c, e = .returned (.slice a xs.length c) ∧ RdI w' a xs ∧ xs.length ≤ c ∧ Ext W w'
set_option maxRecDepth 100000 in
theorem ValC.at {K : Nat} {args : Array Value} {W0 : World} {v : Value} (h : ValC K args W0 v) (W : World) (hW : Ext W0 W) : Calls Try.prog K args W fun e w' => e = .returned v ∧ Ext W w' := h W hW
set_option maxRecDepth 100000 in
theorem LstC.at {K : Nat} {args : Array Value} {W0 : World} {xs : List Int} (h : LstC K args W0 xs) (W : World) (hW : Ext W0 W) : Calls Try.prog K args W fun e w' => ∃ a c, e = .returned (.slice a xs.length c) ∧ RdI w' a xs ∧ xs.length ≤ c ∧ Ext W w' := h W hW
set_option maxRecDepth 100000 in
theorem margO_eq {n : Nat} {vs : List Vt} (h0 : profOk n vs = true) {x y : Nat} (hx : x < n) (hy : y < n) : marginO n vs x y = marginV vs x y := by
  unfold marginO
  have e1 : hasB n x = true := inR_iff.2 (by omega)
  have e2 : hasB n y = true := inR_iff.2 (by omega)
  rw [h0, e1, e2]
  rfl

end Go.Proofs.Ytkbbcglghfddjaa
