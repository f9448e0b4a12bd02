/- Layer 15's parser: Parse's deferred closure. -/
import Derived.Test.YtooajmbpncmgjaaGreatDoorTreeD
import Derived.Defers
import Derived.Recover
import Derived.WideLaws
namespace Go.Proofs.YtooajmbpncmgjaaGreatDoor
open Go.RowKit

def zeroNode : Value := .agg #[.int .i64 0, .string ⟨#[]⟩, .int .i64 0, .int .i64 0, .int .i64 0, .slice none 0 0]
/-- What the deferred function leaves of Parse's results behind a fault. -/
structure Caught (n0 : Nat) (a p : Int) (w w' : World) : Prop where
  node : w'.heap[n0]? = some (.cells #[.int .i64 0, .string ⟨#[]⟩, .int .i64 0, .int .i64 0, .int .i64 0, .slice none 0 0] 26 (0, 0))
  err : w'.heap[n0 + 1]? = some (.cells #[.int .i64 a] 31 (0, 0))
  pos : w'.heap[n0 + 2]? = some (.cells #[.int .i64 p] 3 (0, 0))
  old : Below n0 w w'

theorem caught_of {n0 : Nat} {w w6 : World} (a p : Int) {a0 p0 : Value} (k0 : w6.heap[n0]? = some (.cells #[.int .i64 0, .string ⟨#[]⟩, .int .i64 0, .int .i64 0, .int .i64 0, .slice none 0 0] 26 (0, 0)))
    (h1 : w6.heap[n0 + 1]? = some (.cells #[a0] 31 (0, 0))) (h2 : w6.heap[n0 + 2]? = some (.cells #[p0] 3 (0, 0))) (hb : Below n0 w w6) (o : Obj) :
    Caught n0 a p w (((w6.setCell ⟨n0 + 1, 0, none⟩ (.int .i64 a)).setCell ⟨n0 + 2, 0, none⟩ (.int .i64 p)).alloc o).drew := by
  have k1 := row_far (c := n0 + 2) (i := 0) (row_setCell (i := 0) h1 (.int .i64 a)) (by omega) (.int .i64 p)
  have k2 := row_setCell (i := 0) (row_far (c := n0 + 1) (i := 0) h2 (by omega) (.int .i64 a)) (.int .i64 p)
  have k3 := row_far (c := n0 + 2) (i := 0) (row_far (c := n0 + 1) (i := 0) k0 (by omega) (.int .i64 a)) (by omega) (.int .i64 p)
  have hl := (Array.getElem?_eq_some_iff.1 k3).1
  exact ⟨row_alloc k3 o, row_alloc k1 o, row_alloc k2 o, (((hb.setCell (by simp) _).setCell (by simp) _).alloc (by omega) _).drew⟩

theorem catch_idle (n0 : Nat) (w : World) :
    CallsD Tryz.prog 23 #[.pointer (some ⟨n0, 0, none⟩), .pointer (some ⟨n0 + 1, 0, none⟩), .pointer (some ⟨n0 + 2, 0, none⟩)] .returning w fun e u' w' => e = .returned (.tuple #[]) ∧ u' = .returning ∧ w' = w := by
  refine callsD_of_wpS Tryz.func23 rfl fun c₀ cs hu => ?_
  apply wpS_seq
  apply wpS_region
  simp [wpOpsS, go_sem, recoverD, hu, Tryz.ntmps23, Exit.thenS]
  refine wpS_of_wp ?_
  rw [show ((#[.pointer (some ⟨n0, 0, none⟩), .pointer (some ⟨n0 + 1, 0, none⟩), .pointer (some ⟨n0 + 2, 0, none⟩)] ++ ((Array.replicate 19 undef).setIfInBounds 3 (.nilIface)).setIfInBounds 0 (.nilIface) : Array Value) = #[.pointer (some ⟨n0, 0, none⟩), .pointer (some ⟨n0 + 1, 0, none⟩), .pointer (some ⟨n0 + 2, 0, none⟩), .nilIface, undef, undef, .nilIface, undef, undef, undef, undef, undef, undef, undef, undef, undef, undef, undef, undef, undef, undef, undef]) by kernel_rfl]
  go_wp2
  cases c₀
  simp_all [bodyPostS, results, Tryz.results23]

set_option maxRecDepth 100000 in
set_option maxHeartbeats 1000000 in
theorem catch_fault (n0 : Nat) (a p : Int) (w : World) (kv a0 p0 : Value) (h0 : w.heap[n0]? = some (.cells #[.int .i64 0, .string ⟨#[]⟩, .int .i64 0, .int .i64 0, .int .i64 0, kv] 26 (0, 0)))
    (h1 : w.heap[n0 + 1]? = some (.cells #[a0] 31 (0, 0))) (h2 : w.heap[n0 + 2]? = some (.cells #[p0] 3 (0, 0))) :
    CallsD Tryz.prog 23 #[.pointer (some ⟨n0, 0, none⟩), .pointer (some ⟨n0 + 1, 0, none⟩), .pointer (some ⟨n0 + 2, 0, none⟩)] (.panicking ({ v := .iface 57 (.agg #[.int .i64 a, .int .i64 p]), recovered := false } :: [])) w fun e u' w' =>
      e = .returned (.tuple #[]) ∧ u' = .panicking ({ v := .iface 57 (.agg #[.int .i64 a, .int .i64 p]), recovered := true } :: []) ∧ Caught n0 a p w w' := by
  refine callsD_of_wpS Tryz.func23 rfl fun c₀ cs hu => ?_
  apply wpS_seq
  apply wpS_region
  simp [wpOpsS, go_sem, recoverD, hu, Tryz.ntmps23, Exit.thenS]
  refine wpS_of_wp ?_
  rw [show ((#[.pointer (some ⟨n0, 0, none⟩), .pointer (some ⟨n0 + 1, 0, none⟩), .pointer (some ⟨n0 + 2, 0, none⟩)] ++ ((Array.replicate 19 undef).setIfInBounds 3 (.iface 57 (.agg #[.int .i64 a, .int .i64 p]))).setIfInBounds 0 (.iface 57 (.agg #[.int .i64 a, .int .i64 p])) : Array Value) = #[.pointer (some ⟨n0, 0, none⟩), .pointer (some ⟨n0 + 1, 0, none⟩), .pointer (some ⟨n0 + 2, 0, none⟩), (.iface 57 (.agg #[.int .i64 a, .int .i64 p])), undef, undef, (.iface 57 (.agg #[.int .i64 a, .int .i64 p])), undef, undef, undef, undef, undef, undef, undef, undef, undef, undef, undef, undef, undef, undef, undef]) by kernel_rfl]
  clear hu
  have hta : ∀ w : World, (Instr.typeAssert (.iface 57 (.agg #[.int .i64 a, .int .i64 p])) 20 57 true).run Tryz.prog w = .ok (.tuple #[.agg #[.int .i64 a, .int .i64 p], .bool true]) w := fun w => by kernel_rfl
  have hnot : ∀ (x : Bool) (w : World), (Op.unary .not (.bool x)).run Tryz.prog w = .ok (.bool (!x)) w := fun _ _ => rfl
  have c00 := cell_of_row _ _ 0 _ _ (0, 0) h0
  have f00 := frozen_of_row (i := 0) h0
  have c01 := cell_of_row _ _ 1 _ _ (0, 0) h0
  have f01 := frozen_of_row (i := 1) h0
  have c02 := cell_of_row _ _ 2 _ _ (0, 0) h0
  have f02 := frozen_of_row (i := 2) h0
  have c03 := cell_of_row _ _ 3 _ _ (0, 0) h0
  have f03 := frozen_of_row (i := 3) h0
  have c04 := cell_of_row _ _ 4 _ _ (0, 0) h0
  have f04 := frozen_of_row (i := 4) h0
  have c05 := cell_of_row _ _ 5 _ _ (0, 0) h0
  have f05 := frozen_of_row (i := 5) h0
  have c1 := cell_of_row _ _ 0 _ _ (0, 0) h1
  have c2 := cell_of_row _ _ 0 _ _ (0, 0) h2
  have f1 := frozen_of_row (i := 0) h1
  have f2 := frozen_of_row (i := 0) h2
  have l0 := (Array.getElem?_eq_some_iff.1 h0).1
  have l1 := (Array.getElem?_eq_some_iff.1 h1).1
  have l2 := (Array.getElem?_eq_some_iff.1 h2).1
  have hn0 : ¬ w.heap.size = n0 := by omega
  have hn1 : ¬ w.heap.size = n0 + 1 := by omega
  have hn2 : ¬ w.heap.size = n0 + 2 := by omega
  go_wp2
  go_region
  all_goals
    go_wp2_with fail
    cases c₀
    simp [bodyPostS, results, Tryz.results23]
    exact caught_of a p (row_set6 h0 _ _ _ _ _ _) (row_far (row_far (row_far (row_far (row_far (row_far h1 (by omega) _) (by omega) _) (by omega) _) (by omega) _) (by omega) _) (by omega) _) (row_far (row_far (row_far (row_far (row_far (row_far h2 (by omega) _) (by omega) _) (by omega) _) (by omega) _) (by omega) _) (by omega) _) ((((((((Below.refl n0 w).setCell (by simp) _).setCell (by simp) _).setCell (by simp) _).setCell (by simp) _).setCell (by simp) _).setCell (by simp) _)) _
end Go.Proofs.YtooajmbpncmgjaaGreatDoor
