/- Approvals overwritten by marks. -/
import Derived.Test.YtdkkmhncdlaphaaList
import Derived.Test.YtdkkmhncdlaphaaLawB
namespace Go.Proofs.Ytdkkmhncdlaphaa
open Go.RowKit

set_option maxHeartbeats 1000000 in
theorem markAS (w : World) (g n c : Nat) (f : Nat → Value) (k0 : Int) (hB : BlkF w g (n * 2) f) (hn : n ≤ 1048576) (h0 : 0 ≤ k0) (h1 : k0 ≤ 2000000) :
    Calls Try.prog 53 #[.slice (some ⟨g, 0, none⟩) n c, .int .i64 k0] w fun e w' => e = .returned (.int .i64 (k0 + 2 * n)) ∧ Only g w w' := by
  go_enter Try.func53, Try.ntmps53
  go_wp2
  go_loopw [1, 5] (fun m i wr => ∃ (k : Nat) (f : Nat → Value), k ≤ n ∧ i = .int .i64 k ∧ m = .int .i64 (k0 + 2 * k) ∧ BlkF wr g (n * 2) f ∧ Only g w wr) (fun _ i _ => n - (intOf i).toNat)
  case atStart => exact ⟨0, f, Nat.zero_le _, rfl, by go_num, hB, Only.refl _ _⟩
  case round =>
    obtain ⟨k, f1, hk, rfl, rfl, hB1, hO⟩ := hrel
    by_cases hlt : k < n
    · have d0 := hB1.cell (k * 2) (by omega)
      have d1 := hB1.cell (k * 2 + 1) (by omega)
      have z0 := hB1.fr (k * 2)
      have z1 := hB1.fr (k * 2 + 1)
      go_wp2
      exact ⟨⟨k + 1, _, by omega, by go_num, by congr 1; omega, (hB1.set (k * 2) (by omega) _).set (k * 2 + 1) (by omega) _, (hO.setCell _ _).setCell _ _⟩, by simp [intOf]; omega⟩
    · obtain rfl : k = n := by omega
      go_wp2
      go_ret
      exact ⟨rfl, hO⟩

set_option maxHeartbeats 1000000 in
theorem markA (w : World) (sz : Int) (g n c : Nat) (f : Nat → Value) (k0 : Int) (hB : BlkF w g (n * 2) f) (hn : n ≤ 1048576) (h0 : 0 ≤ k0) (h1 : k0 ≤ 2000000) :
    Calls Try.prog 20 #[.agg #[.int .i64 sz, .slice (some ⟨g, 0, none⟩) n c], .int .i64 k0] w fun e w' => e = .returned (.int .i64 (k0 + 2 * n)) ∧ Only g w w' := by
  go_enter Try.func20, Try.ntmps20
  go_wp2_with fail
  refine (markAS _ g n c f k0 (hB.ext (by repeat (first | exact Ext.refl _ | assumption | refine Ext.alloc ?_ _ | refine Ext.drew ?_ | refine Ext.trans ?_ (by assumption)))) hn h0 h1).mono ?_
  rintro e w1 ⟨rfl, hw1⟩
  go_wp2
  go_ret
  exact ⟨rfl, (Only.of_ext (Ext.new _ _)).trans hw1⟩

/-- Only blocks from lo on and below hi have turned (and memory is added). -/
structure Rng (lo hi : Nat) (w w' : World) : Prop where
  os : w'.os = w.os
  tape : w'.tape = w.tape
  output : w'.output = w.output
  size : w.heap.size ≤ w'.heap.size
  block : ∀ k, k < w.heap.size → ¬ (lo ≤ k ∧ k < hi) → w'.heap[k]? = w.heap[k]?
theorem Rng.of_ext {lo hi : Nat} {w w' : World} (h : Ext w w') : Rng lo hi w w' := ⟨h.os, h.tape, h.output, Below.size h, fun k hk _ => Below.block h k hk⟩
theorem Rng.of_only {lo hi g : Nat} {w w' : World} (h : Only g w w') (h1 : lo ≤ g) (h2 : g < hi) : Rng lo hi w w' :=
  ⟨h.os, h.tape, h.output, h.size, fun k hk hn => h.block k hk (fun e => by injection e with e; subst e; exact hn ⟨h1, h2⟩)⟩
theorem Rng.trans {lo hi : Nat} {a b c : World} (h : Rng lo hi a b) (k : Rng lo hi b c) : Rng lo hi a c :=
  ⟨k.os.trans h.os, k.tape.trans h.tape, k.output.trans h.output, Nat.le_trans h.size k.size, fun i hi hne => (k.block i (Nat.lt_of_lt_of_le hi h.size) hne).trans (h.block i hi hne)⟩
theorem Rng.ext {lo hi : Nat} {W w w' : World} (h : Ext W w) (hg : Rng lo hi w w') (hb : W.heap.size ≤ lo) : Ext W w' :=
  ⟨hg.os.trans h.os, hg.tape.trans h.tape, hg.output.trans h.output, Nat.le_trans h.size hg.size, fun k hk => (hg.block k (Nat.lt_of_lt_of_le hk h.size) (by omega)).trans (Below.block h k hk)⟩
theorem Rng.keep {lo hi : Nat} {w w' : World} (h : Rng lo hi w w') {p : Addr} (hp : p.block < lo ∨ hi ≤ p.block) {v : Value} (hc : w.cell? p = some v) : w'.cell? p = some v :=
  (World.cell?_of_block (w := w) (h.block p.block (World.block_lt_of_cell? w p hc) (by omega))).trans hc

/-- What the copy of approvals is good for: it may be marked. -/
def MkA (w : World) (lo hi : Nat) (a : Option Addr) (n : Nat) : Prop := ∃ g f, a = some ⟨g, 0, none⟩ ∧ lo ≤ g ∧ g < hi ∧ BlkF w g (n * 2) f
theorem MkA.ext {w w' : World} {lo hi : Nat} {a : Option Addr} {n : Nat} (h : MkA w lo hi a n) (hw : Ext w w') : MkA w' lo hi a n := by
  obtain ⟨g, f, ha, h1, h2, hB⟩ := h
  exact ⟨g, f, ha, h1, h2, hB.ext hw⟩
theorem toA_mk (w : World) (sz : Int) (a : Option Addr) (c : Nat) (bs : List (Int × Int)) (hR : RdP w a bs) (hl : bs.length ≤ 1048576) :
    Calls Try.prog 14 #[.agg #[.int .i64 sz, .slice a bs.length c]] w fun e w' => ∃ a', e = .returned (.agg #[.int .i64 sz, .slice a' bs.length bs.length]) ∧ RdP w' a' bs ∧ MkA w' w.heap.size w'.heap.size a' bs.length ∧ Ext w w' :=
  (toA w sz a c bs hR hl).mono fun _ _ ⟨g, f, he, hg, hB, hf, hw⟩ => ⟨some ⟨g, 0, none⟩, he, hB.rdP (Nat.le_refl _) hf, ⟨g, f, rfl, hg, hB.lt, hB⟩, hw⟩
theorem markA_mk (w : World) (sz : Int) (lo hi : Nat) (a : Option Addr) (n c : Nat) (h : MkA w lo hi a n) (hn : n ≤ 1048576) :
    Calls Try.prog 20 #[.agg #[.int .i64 sz, .slice a n c], .int .i64 1] w fun e w' => ∃ m : Int, e = .returned (.int .i64 m) ∧ 0 ≤ m ∧ Rng lo hi w w' := by
  obtain ⟨g, f, rfl, h1, h2, hB⟩ := h
  exact (markA w sz g n c f 1 hB hn (by decide) (by decide)).mono fun _ _ ⟨he, hO⟩ => ⟨_, he, by omega, Rng.of_only hO h1 h2⟩
end Go.Proofs.Ytdkkmhncdlaphaa
