/- slices' stable sort with a function, of a short list. -/
import Derived.Test.YtacmabdeocmheaaInsR
namespace Go.Proofs.Ytacmabdeocmheaa
open Go.RowKit

set_option maxRecDepth 100000 in
set_option maxHeartbeats 4000000 in
theorem stabR_impl (K : Nat) (fst cap : Array Value) (key : RowE → Int) (d : RowE → RowE → Int) (w : World) (g n c : Nat) (ys : List RowE) (hn : ys.length = n) (hn2 : n ≤ 19) (hB : BlkF w g n (memF rowV ys)) (hK : Enters Try.prog K)
    (hd : ∀ x y, d x y < 0 ↔ key y < key x)
    (hf : ∀ (x y : RowE) (w' : World), x ∈ ys → y ∈ ys → Only g w w' → Calls Try.prog K (fst ++ (#[.slice x.a x.n x.c, .slice y.a y.n y.c] ++ cap)) w' fun e w'' => e = .returned (.int .i64 (d x y)) ∧ Ext w' w'') :
    Calls Try.prog 141 #[.slice (some ⟨g, 0, none⟩) n c, .func (.func K) fst cap] w fun e w' => e = .returned (.tuple #[]) ∧ BlkF w' g n (memF rowV (sortD key ys)) ∧ Only g w w' := by
  have HI := hide (insR_impl K fst cap key d w g n c ys hn (by omega) hB hK hd hf)
  have i1 : ¬ (20 : Int) ≤ (n : Int) := by omega
  have i2 : ¬ (20 : Int) < (n : Int) := by omega
  clear hd hf hB hn
  have HS : Hid (Calls Try.prog 237 #[.slice (some ⟨g, 0, none⟩) n c, .int .i64 n, .func (.func K) fst cap] w fun e w' => e = .returned (.tuple #[]) ∧ BlkF w' g n (memF rowV (sortD key ys)) ∧ Only g w w') := by
    go_enter Try.func237, Try.ntmps237
    go_wp2_with fail
    go_loopw [7, 8] (fun a b wr => a = .int .i64 0 ∧ b = .int .i64 20 ∧ wr = w) (fun _ _ _ => 0)
    case atStart => exact ⟨rfl, rfl, rfl⟩
    case round =>
      obtain ⟨rfl, rfl, rfl⟩ := hrel
      go_wp2_with fail
      refine HI.out.mono ?_
      rintro e w1 ⟨rfl, hB1, hO1⟩
      obtain ⟨wb, hwb⟩ : ∃ wb : World, wb = wr := ⟨_, rfl⟩
      subst hwb
      go_wp2_with fail
      go_loopw [6, 7, 8, 9] (fun s _ _ _ wq => s = .int .i64 20 ∧ wq = w1) (fun _ _ _ _ _ => 0)
      case atStart => exact ⟨rfl, rfl⟩
      case round =>
        obtain ⟨rfl, rfl⟩ := hrel
        go_wp2
        go_end0
        exact ⟨rfl, hB1, hO1⟩
  go_enter Try.func141, Try.ntmps141
  go_wp2_with fail
  refine HS.out.mono ?_
  rintro e w1 ⟨rfl, hB1, hO1⟩
  go_wp2
  go_end0
  exact ⟨rfl, hB1, hO1⟩

end Go.Proofs.Ytacmabdeocmheaa
