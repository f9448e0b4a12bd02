/- The package variables stay where only blocks behind them turn. -/
import Derived.Test.YtooajmbpncmgjaaGreatDoorUnitC
import Derived.Test.YtooajmbpncmgjaaGreatDoorMem
namespace Go.Proofs.YtooajmbpncmgjaaGreatDoor
open Go.RowKit

/-- The variables that are needed lie in blocks below NG. -/
def NG : Nat := max (max 0 3) (max (max 6 7) 8) + 1

theorem Std.size {w : World} (hw : Std w) : NG ≤ w.heap.size := by
  obtain ⟨⟨tp, p, h1⟩, ⟨tp', p', h2⟩, ⟨t, fr, h3⟩, ⟨m, h4⟩, h5⟩ := hw
  have a1 := var_lt gSyn h1
  have a2 := var_lt gRng h2
  have a3 := heap_lt h3
  have a4 := cell_lt h4
  have a5 := var_lt gPow h5
  unfold NG
  omega
theorem Std.grown {w w' : World} {row : Option Nat} (hw : Std w) (hg : w.grownBy w' row) (hr : ∀ r, row = some r → NG ≤ r) : Std w' := by
  have hs := hw.size
  have hb : Below NG w w' := ⟨hg.os, hg.tape, hg.output, hg.size, fun k hk => hg.block k (by omega) (fun e => by have := hr k e.symm; omega)⟩
  have k1 : ∀ {g : Nat}, g ≤ max (max 0 3) (max (max 6 7) 8) → g < NG := fun h => Nat.lt_succ_of_le h
  obtain ⟨⟨tp, p, h1⟩, ⟨tp', p', h2⟩, ⟨t, fr, h3⟩, ⟨m, h4⟩, h5⟩ := hw
  refine ⟨⟨tp, p, (var_below hb gSyn (k1 (by decide))).trans h1⟩, ⟨tp', p', (var_below hb gRng (k1 (by decide))).trans h2⟩, ⟨t, fr, (hb.block _ (k1 (by decide))).trans h3⟩, ⟨m, (hb.cell (p := ⟨_, 0, none⟩) (k1 (by decide))).trans h4⟩, ?_⟩
  exact (var_below hb gPow (k1 (by decide))).trans h5
end Go.Proofs.YtooajmbpncmgjaaGreatDoor
