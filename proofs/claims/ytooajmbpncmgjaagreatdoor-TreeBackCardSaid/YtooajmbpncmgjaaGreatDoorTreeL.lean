/- What the rows' lists of package-level variables give. -/
import Derived.Test.YtooajmbpncmgjaaGreatDoorRows
import Derived.Test.YtooajmbpncmgjaaGreatDoorUnitC
import Derived.ProofKit
import Derived.OpenShut
import Derived.LaidMore
import Derived.Lay
import Derived.Deep.DeepHandedRow
import Derived.Deep.DeepWitnessRowRef
import Derived.Lib.LaidTab
import Derived.MakeChecks
import Derived.Stop.LaidErr
namespace Go.Proofs.YtooajmbpncmgjaaGreatDoor
open Go.ChangeShapes Go.WideShapes Go.ChangeAt Go.RowKit

theorem own : ownKnob Tryz.prog.godebug = none := by kernel_rfl
/-- The rows' list. -/
def laidList : List (String × DataW Unit) := Rows.treeBackRow.laid

theorem rows_flat (m : Nat) : ∀ (n : Nat) (f : Nat → List Value) (cs : List Value), cs.length = n * m → (∀ i, i < n → (cs.drop (i * m)).take m = f i) → cs = (List.range n).flatMap f
  | 0, f, cs, h, _ => by
    have : cs = [] := List.eq_nil_of_length_eq_zero (by omega)
    simp [this]
  | n + 1, f, cs, h, hf => by
    rw [List.range_succ_eq_map, List.flatMap_cons, List.flatMap_map]
    have h0 := hf 0 (by omega)
    rw [Nat.zero_mul, List.drop_zero] at h0
    rw [← h0]
    have ih := rows_flat m n (fun i => f (i + 1)) (cs.drop m) (by rw [List.length_drop, h, Nat.succ_mul]; omega) (fun i hi => by
      rw [List.drop_drop, ← hf (i + 1) (by omega), Nat.succ_mul, Nat.add_comm m])
    have e : (List.range n).flatMap (fun i => f i.succ) = cs.drop m := by rw [ih]
    rw [e, List.take_append_drop]

theorem list4 {α : Type} {l : List α} (h : l.length = 4) : ∃ a b c d, l = [a, b, c, d] := by
  match l, h with
  | [a, b, c, d], _ => exact ⟨a, b, c, d, rfl⟩
/-- One row of the table of units. -/
theorem unit_row {w : World} {fuel : Nat} {cs : List Value} {x : DataW Unit × List MemPlace} {nm : List UInt8} {d a b : Nat}
    (h : DataW.trod (fun _ => ()) Tryz.prog w 0 (fun _ => true) false fuel 73 cs = some x) (hx : x.1 = .agg [.lit (.string nm), .lit (.int .i64 d), .lit (.int .u64 a), .lit (.int .u64 b)]) :
    cs = [.string ⟨nm.toArray⟩, .int .i64 (d : Int), .int .u64 (a : Int), .int .u64 (b : Int)] := by
  obtain ⟨xs, n, _, rfl, hl, hlen, hf⟩ := DataW.trod_struct Tryz.underlying73 h
  have hl4 : cs.length = 4 := by rw [hl]; kernel_rfl
  obtain ⟨x0, x1, x2, x3, rfl⟩ := list4 (show xs.length = 4 from hlen)
  obtain ⟨c0, c1, c2, c3, rfl⟩ := list4 hl4
  clear hl4 hlen hl
  have k9 : Tryz.prog.cellsOf 9 = 1 := by kernel_rfl
  have k3 : Tryz.prog.cellsOf 3 = 1 := by kernel_rfl
  have k47 : Tryz.prog.cellsOf 71 = 1 := by kernel_rfl
  have h0 : DataW.trod (fun _ => ()) Tryz.prog w 0 (fun _ => true) false n 9 (([c0, c1, c2, c3].drop 0).take (Tryz.prog.cellsOf 9)) = some x0 := hf 0 _ rfl
  have h1 : DataW.trod (fun _ => ()) Tryz.prog w 0 (fun _ => true) false n 3 (([c0, c1, c2, c3].drop 1).take (Tryz.prog.cellsOf 3)) = some x1 := hf 1 _ rfl
  have h2 : DataW.trod (fun _ => ()) Tryz.prog w 0 (fun _ => true) false n 71 (([c0, c1, c2, c3].drop 2).take (Tryz.prog.cellsOf 71)) = some x2 := hf 2 _ rfl
  have h3 : DataW.trod (fun _ => ()) Tryz.prog w 0 (fun _ => true) false n 71 (([c0, c1, c2, c3].drop 3).take (Tryz.prog.cellsOf 71)) = some x3 := hf 3 _ rfl
  rw [k9] at h0
  rw [k3] at h1
  rw [k47] at h2 h3
  obtain ⟨s, e0, rfl, _⟩ := DataW.trod_string Tryz.underlying9 h0
  obtain ⟨z1, e1, rfl, _⟩ := DataW.trod_int Tryz.underlying3 h1
  obtain ⟨z2, e2, rfl, _⟩ := DataW.trod_int Tryz.underlying71 h2
  obtain ⟨z3, e3, rfl, _⟩ := DataW.trod_int Tryz.underlying71 h3
  simp only [List.map_cons, List.map_nil, DataW.agg.injEq, List.cons.injEq, DataW.lit.injEq, Lit.string.injEq, Lit.int.injEq, true_and, and_true] at hx
  obtain ⟨g0, g1, g2, g3⟩ := hx
  obtain rfl : c0 = .string s := (List.cons.inj e0).1
  obtain rfl : c1 = .int .i64 z1 := (List.cons.inj e1).1
  obtain rfl : c2 = .int .u64 z2 := (List.cons.inj e2).1
  obtain rfl : c3 = .int .u64 z3 := (List.cons.inj e3).1
  subst g1 g2 g3
  rw [← g0]

theorem unit_flat : ((List.range 19).flatMap fun i => [Value.string ⟨(U.uName i).toArray⟩, .int .i64 (U.uDim i : Int), .int .u64 (U.uNum i : Int), .int .u64 (U.uDen i : Int)]) = unitCells.toList := by kernel_rfl
theorem unit_cells {w : World} {fuel : Nat} {cs : List Value} {p : List MemPlace}
    (h : DataW.trod (fun _ => ()) Tryz.prog w 0 (fun _ => true) false fuel 74 cs = some (Rows.laid_bourne_unit_units, p)) : cs = unitCells.toList := by
  obtain ⟨xs, n, _, hx, hl, hlen, hf⟩ := DataW.trod_array Tryz.underlying74 h
  have k49 : Tryz.prog.cellsOf 73 = 4 := by kernel_rfl
  have k50 : Tryz.prog.cellsOf 74 = 76 := by kernel_rfl
  rw [k49] at hf
  rw [k50] at hl
  have hxs : xs.map (·.1) = U.unitTab.map fun u => .agg [.lit (.string u.1), .lit (.int .i64 u.2.1), .lit (.int .u64 u.2.2.1), .lit (.int .u64 u.2.2.2)] := (DataW.agg.inj (Prod.mk.inj hx).1).symm
  have hrow : ∀ i, i < 19 → (cs.drop (i * 4)).take 4 = [.string ⟨(U.uName i).toArray⟩, .int .i64 (U.uDim i : Int), .int .u64 (U.uNum i : Int), .int .u64 (U.uDen i : Int)] := by
    intro i hi
    have hlt : i < xs.length := by omega
    have hfi := hf i hi
    rw [List.getElem?_eq_getElem hlt] at hfi
    refine unit_row hfi ?_
    have h1 : (xs.map (·.1))[i]? = some (xs[i]).1 := by rw [List.getElem?_map, List.getElem?_eq_getElem hlt]; rfl
    rw [hxs, List.getElem?_map] at h1
    have hlt2 : i < U.unitTab.length := hi
    rw [List.getElem?_eq_getElem hlt2] at h1
    rw [← Option.some.inj h1]
    unfold U.uName U.uDim U.uNum U.uDen
    rw [List.getD_eq_getElem?_getD, List.getElem?_eq_getElem hlt2]
    rfl
  exact (rows_flat 4 19 (fun i => [.string ⟨(U.uName i).toArray⟩, .int .i64 (U.uDim i : Int), .int .u64 (U.uNum i : Int), .int .u64 (U.uDen i : Int)]) cs hl hrow).trans unit_flat

theorem laid_split : laidList = [("math/bits.deBruijn32tab", Rows.laid_math_bits_deBruijn32tab), ("math/bits.deBruijn64tab", Rows.laid_math_bits_deBruijn64tab), ("internal/strconv.uint64pow10", Lib.tabData .u64 Lib.pow10Tab), ("unicode/utf8.acceptRanges", Rows.laid_unicode_utf8_acceptRanges),
  ("strconv.ErrRange", Rows.laid_strconv_ErrRange), ("strconv.ErrSyntax", Rows.laid_strconv_ErrSyntax), ("bourne/unit.units", Rows.laid_bourne_unit_units), ("unicode/utf8.first", Rows.laid_unicode_utf8_first)] := by kernel_rfl

theorem star : "*" ++ "errors.errorString" = "*errors.errorString" := by decide
theorem sentinel_name (u : TypeId) (h : Tryz.prog.typeName? 3 u = some "*errors.errorString") : u = 157 :=
  typeName_ptr_named (nm := "errors.errorString") (by rw [star]; kernel_rfl) (by kernel_rfl) (by decide) u (by rw [star]; exact h)

theorem std_of_laid {W : World} (h : laidMetH Tryz.prog laidList W) (hsh : W.ShapedOpen Tryz.prog) : Std W := by
  rw [MakeChecks.laidMetH_plain _ _ _ (by kernel_rfl), laid_split] at h
  have h3 := laidMet.tail (laidMet.tail h)
  have h5 := laidMet.tail (laidMet.tail h3)
  have h6 := laidMet.tail h5
  have h7 := laidMet.tail h6
  refine ⟨?_, ?_, ?_, ?_, ?_⟩
  · obtain ⟨a, s, hv, _⟩ := laid_sentinel h6 gSyn (ti := 52) (tp := 157) (te := 159) (ts := 9) (by kernel_rfl) Tryz.underlying52 sentinel_name Tryz.underlying157 Tryz.underlying159 rfl rfl Tryz.underlying9 (by kernel_rfl) (by kernel_rfl)
    exact ⟨_, _, hv⟩
  · obtain ⟨a, s, hv, _⟩ := laid_sentinel h5 gRng (ti := 52) (tp := 157) (te := 159) (ts := 9) (by kernel_rfl) Tryz.underlying52 sentinel_name Tryz.underlying157 Tryz.underlying159 rfl rfl Tryz.underlying9 (by kernel_rfl) (by kernel_rfl)
    exact ⟨_, _, hv⟩
  · obtain ⟨ps, ⟨g, t, cs, fuel, p, q, hg, ht, hv, hd, _, _⟩, _, _⟩ := h7
    obtain rfl := Option.some.inj ((show Tryz.prog.globalNamed "bourne/unit.units" = some 0 by kernel_rfl).symm.trans hg)
    obtain rfl := Option.some.inj ((show (Tryz.prog.globals[0]?).map (·.type) = some 74 by kernel_rfl).symm.trans ht)
    have hc := unit_cells hd
    have hc2 : cs = unitCells := Array.ext' hc
    subst hc2
    unfold World.var? at hv
    rw [hg] at hv
    simp only [Option.bind_some] at hv
    split at hv
    · rename_i cs' t fr he
      injection hv with hv
      subst hv
      exact ⟨_, _, he⟩
    · cases hv
  · exact Tryz.laysM145.s1_3 W hsh
  · exact Lib.tabIs_of_head gPow (by kernel_rfl) Tryz.underlying153 Tryz.underlying71 (by kernel_rfl) (by kernel_rfl) h3

/-- A world for the witness: every listed variable as its datum says. -/
theorem shaped_args (os : Os) (args : Array Value) : ((World.laidAll Tryz.prog os laidList).forCall (fun _ _ => 0) ⟨#[], args, []⟩).Shaped Tryz.prog :=
  World.shaped_of_ZipB (by kernel_rfl) (by kernel_rfl)
theorem laid_args (os : Os) (args : Array Value) : laidMetH Tryz.prog laidList ((World.laidAll Tryz.prog os laidList).forCall (fun _ _ => 0) ⟨#[], args, []⟩).memory := by
  rw [MakeChecks.laidMetH_plain _ _ _ (by kernel_rfl)]
  exact laidMet_laidAll _ (by kernel_rfl) (by kernel_rfl)
end Go.Proofs.YtooajmbpncmgjaaGreatDoor
