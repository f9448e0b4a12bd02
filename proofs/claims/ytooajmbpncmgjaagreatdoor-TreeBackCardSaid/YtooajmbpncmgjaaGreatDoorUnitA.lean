/- Layer 14's helpers, by contract: digits, value, scaled. -/
import Derived.Test.YtooajmbpncmgjaaGreatDoorPlain
import Derived.Test.YtooajmbpncmgjaaGreatDoorDiv
import Derived.Test.YtooajmbpncmgjaaGreatDoorShelf
import Derived.Shelf.Strings.SlTrimAscii
import Derived.Handy
namespace Go.Proofs.YtooajmbpncmgjaaGreatDoor
open Go.RowKit

theorem digitsB_yes {l : List UInt8} {m : Nat} (h1 : ¬ l = []) (h2 : l.length ≤ m) (h3 : Lib.trimS l U.tens = []) : U.digitsB l m = true := by
  have h4 := (U.trim_nil l).1 h3
  cases l with
  | nil => exact absurd rfl h1
  | cons x r => simp only [U.digitsB, h4, decide_eq_true h2]; rfl
theorem digitsB_no {l : List UInt8} {m : Nat} (h3 : ¬ Lib.trimS l U.tens = []) : U.digitsB l m = false := by
  have h4 : ¬ l.all U.isDig = true := fun h => h3 ((U.trim_nil l).2 h)
  simp only [U.digitsB, Bool.eq_false_iff.2 h4, Bool.and_false]

theorem ret_bool {a b : Bool} (h : a = b) : Ending.returned (.bool a) = .returned (.bool b) := by rw [h]
theorem ret_u64 {a b : Int} (h : a = b) : Ending.returned (.int .u64 a) = .returned (.int .u64 b) := by rw [h]
theorem trim_any (s : ByteArray) (w : World) (hs : s.size ≤ 9223372036854775807) :
    Calls Tryz.prog 47 #[.string s, .string ⟨#[48, 49, 50, 51, 52, 53, 54, 55, 56, 57]⟩] w fun e w' => e = .returned (.string ⟨(Lib.trimS s.data.toList U.tens).toArray⟩) ∧ Below w.heap.size w w' :=
  Any.strings_Trim_laid Tryz.lays160 (by kernel_rfl) s ⟨#[48, 49, 50, 51, 52, 53, 54, 55, 56, 57]⟩ w hs (by decide) (ascii_of_all (by decide))

set_option maxHeartbeats 400000 in
theorem digits_any (s : ByteArray) (most : Nat) (w : World) (hs : s.size ≤ maxLen) (_hm : most ≤ 100) :
    Calls Tryz.prog 29 #[.string s, .int .i64 most] w fun e w' => e = .returned (.bool (U.digitsB s.data.toList most)) ∧ Below w.heap.size w w' := by
  unfold maxLen at hs
  obtain ⟨tl, htl⟩ : ∃ tl, tl = Lib.trimS s.data.toList U.tens := ⟨_, rfl⟩
  have TR : Hid (∀ w, Calls Tryz.prog 47 #[.string s, .string ⟨#[48, 49, 50, 51, 52, 53, 54, 55, 56, 57]⟩] w fun e w' => e = .returned (.string ⟨tl.toArray⟩) ∧ Below w.heap.size w w') := fun w => by
    rw [htl]; exact trim_any s w hs
  have HTL := Lib.hid htl
  clear htl
  have hsz : s.data.toList.length = s.size := Array.length_toList
  have HSZ := Lib.hid hsz
  clear hsz
  by_cases he : s.toList = []
  · have hfin : U.digitsB s.data.toList most = false := by rw [← Lib.toList_data, he]; rfl
    have HF := Lib.hid hfin
    clear hfin
    go_enter Tryz.func29, Tryz.ntmps29
    go_wp2_with fail
    go_ret
    exact ⟨ret_bool HF.out.symm, Below.refl _ _⟩
  · have hne : s.toList.isEmpty = false := by simpa using he
    by_cases hl : s.size ≤ most
    · by_cases ht : tl = []
      · have hfin : U.digitsB s.data.toList most = true := digitsB_yes (by rw [← Lib.toList_data]; exact he) (by rw [HSZ.out]; exact hl) (by rw [← HTL.out]; exact ht)
        have HF := Lib.hid hfin
        clear hfin
        subst ht
        go_enter Tryz.func29, Tryz.ntmps29
        go_wp2_with (go_at_call 47; refine (TR.out _).mono ?_; rintro e w' ⟨rfl, hb⟩)
        go_ret
        exact ⟨ret_bool HF.out.symm, hb⟩
      · have hfin : U.digitsB s.data.toList most = false := digitsB_no (by rw [← HTL.out]; exact ht)
        have HF := Lib.hid hfin
        clear hfin
        obtain ⟨x, r, rfl⟩ := List.exists_cons_of_ne_nil ht
        clear ht
        go_enter Tryz.func29, Tryz.ntmps29
        go_wp2_with (go_at_call 47; refine (TR.out _).mono ?_; rintro e w' ⟨rfl, hb⟩)
        go_ret
        exact ⟨ret_bool HF.out.symm, hb⟩
    · have hfin : U.digitsB s.data.toList most = false := by
        unfold U.digitsB
        rw [HSZ.out, decide_eq_false hl]
        simp
      have HF := Lib.hid hfin
      clear hfin
      go_enter Tryz.func29, Tryz.ntmps29
      go_wp2_with fail
      go_ret
      exact ⟨ret_bool HF.out.symm, Below.refl _ _⟩


/-- The table of units, cell by cell. -/
def unitCells : Array Value := (U.unitTab.flatMap fun u => [Value.string ⟨u.1.toArray⟩, .int .i64 (u.2.1 : Int), .int .u64 (u.2.2.1 : Int), .int .u64 (u.2.2.2 : Int)]).toArray
/-- What the functions of the package need of a world: its package-level variables as the program's text lays them. -/
structure Std (w : World) : Prop where
  syn : ∃ tp p, w.var? Tryz.prog "strconv.ErrSyntax" = some #[.iface tp p]
  rng : ∃ tp p, w.var? Tryz.prog "strconv.ErrRange" = some #[.iface tp p]
  units : ∃ t fr, w.heap[0]? = some (.cells unitCells t fr)
  most : ∃ m, w.cell? ⟨3, 0, none⟩ = some (.int .i64 m)
  pow : Lib.TabIs Tryz.prog w "internal/strconv.uint64pow10" .u64 Lib.pow10Tab

theorem var_below {w w' : World} {B : Nat} (hb : Below B w w') {name : String} {g : Nat} (hg : Tryz.prog.globalNamed name = some g) (hlt : g < B) : w'.var? Tryz.prog name = w.var? Tryz.prog name := by
  unfold World.var?
  rw [hg]
  simp only [Option.bind_some]
  rw [hb.block g hlt]

theorem grown_alt {w w' : World} {t : TypeId} {s : ByteArray} (h : w' = w ∨ w' = Lib.bytesWorld w t s) : Below w.heap.size w w' := by
  rcases h with rfl | rfl
  · exact Below.refl _ _
  · exact Lib.bytesWorld_below _ _ _

set_option maxHeartbeats 400000 in
theorem value_any (s : ByteArray) (w : World) (hw : Std w) (hs : s.size ≤ 1000000) :
    Calls Tryz.prog 48 #[.string s] w fun e w' => e = .returned (.int .u64 (U.valueOf s.data.toList)) ∧ Below w.heap.size w w' := by
  obtain ⟨tp, p, hsyn⟩ := hw.syn
  obtain ⟨tp', p', hrng⟩ := hw.rng
  cases h : Lib.parseUintB 64 s.data.toList
  · rename_i u
    have PU := Lib.hid fun w => Tryz.strconv_ParseUint_10_at64_ok s (by omega) u h w
    have hu := Lib.parseUintB_le h
    have hu2 : (u : Int) ≤ 18446744073709551615 := by omega
    by_cases hc : U.capV < u
    · have hf : U.valueOf s.data.toList = U.capV := by unfold U.valueOf; rw [h]; simp only [if_pos hc]
      have HF := Lib.hid hf
      clear h hsyn hrng hf hu
      unfold U.capV at hc
      have hd : decide (54043195528445952 < (u : Int)) = true := by simp; omega
      clear hc
      go_enter Tryz.func48, Tryz.ntmps48
      go_wp2_with (go_at_call 77; refine (PU.out _).mono ?_; rintro e w' ⟨rfl, hb⟩)
      go_ret
      exact ⟨ret_u64 (by rw [HF.out]; rfl), grown_alt (by assumption)⟩
    · have hf : U.valueOf s.data.toList = u := by unfold U.valueOf; rw [h]; simp only [if_neg hc]
      have HF := Lib.hid hf
      clear h hsyn hrng hf hu
      unfold U.capV at hc
      have hd : decide (54043195528445952 < (u : Int)) = false := by simp; omega
      clear hc
      go_enter Tryz.func48, Tryz.ntmps48
      go_wp2_with (go_at_call 77; refine (PU.out _).mono ?_; rintro e w' ⟨rfl, hb⟩)
      go_ret
      exact ⟨ret_u64 (by rw [HF.out]), grown_alt (by assumption)⟩
  · have PU := Lib.hid (Any.strconv_ParseUint_10_at64_syntax_var Tryz.laysPu14 s (by omega) h tp p w hsyn)
    have hf : U.valueOf s.data.toList = U.capV := by unfold U.valueOf; rw [h]
    have HF := Lib.hid hf
    clear h hsyn hrng hf
    go_enter Tryz.func48, Tryz.ntmps48
    go_wp2_with (go_at_call 77; refine PU.out.mono ?_; rintro e w' ⟨N, rfl, _, _, hb⟩)
    go_ret
    exact ⟨ret_u64 (by rw [HF.out]; rfl), by assumption⟩
  · have PU := Lib.hid (Tryz.strconv_ParseUint_10_at64_range_var s (by omega) h tp' p' w hrng)
    have hf : U.valueOf s.data.toList = U.capV := by unfold U.valueOf; rw [h]
    have HF := Lib.hid hf
    clear h hsyn hrng hf
    go_enter Tryz.func48, Tryz.ntmps48
    go_wp2_with (go_at_call 77; refine PU.out.mono ?_; rintro e w' ⟨N, rfl, _, _, hb⟩)
    go_ret
    exact ⟨ret_u64 (by rw [HF.out]; rfl), by assumption⟩

theorem mul64_any (x y h l : Nat) (hx : x < 18446744073709551616) (hy : y < 18446744073709551616) (hl : l < 18446744073709551616) (e : x * y = h * 18446744073709551616 + l) (w : World) :
    Calls Tryz.prog 49 #[.int .u64 x, .int .u64 y] w fun e w' => e = .returned (.tuple #[.int .u64 h, .int .u64 l]) ∧ w = w' := by
  have h1 : x * y / 18446744073709551616 = h := by rw [e]; omega
  have h2 : x * y % 18446744073709551616 = l := by rw [e]; omega
  have c := Tryz.bits_Mul64 x y hx hy w
  rw [h1, h2] at c
  exact c.mono fun _ _ ⟨a, b⟩ => ⟨a, b.symm⟩

/-- bits.Add64 with carry 0: the sum, where it fits. -/
theorem add64_run (x y : Int) (w : World) (hx : 0 ≤ x) (hy : 0 ≤ y) (hs : x + y < 18446744073709551616) :
    (callFunc 50 #[.int .u64 x, .int .u64 y, .int .u64 0]).run Tryz.prog w = .ok (.value (.tuple #[.int .u64 (x + y), .int .u64 0])) w := by
  rw [run_callFunc_extern (e := add64Entry) Tryz.func50 (by kernel_rfl) (by kernel_rfl) (by kernel_rfl) (by kernel_rfl), run_add64 x y 0 hx hy (by omega) (by omega)]
  have h1 : (x + y + 0) % 18446744073709551616 = x + y := by omega
  have h2 : (x + y + 0) / 18446744073709551616 = 0 := by omega
  rw [h1, h2]
  rfl

set_option maxHeartbeats 1000000 in
/-- What unit.scaled gives: the product's two halves, where it is not too large. -/
theorem scaled_any (hi lo by' a b1 b0 : Nat) (w : World) (h1 : (hi : Int) < 18446744073709551616) (h2 : (lo : Int) < 18446744073709551616) (h3 : (by' : Int) < 18446744073709551616)
    (ha : hi * by' = a) (hb : lo * by' = b1 * 18446744073709551616 + b0) (hb0 : (b0 : Int) < 18446744073709551616) (hs : (a : Int) + (b1 : Int) < 18446744073709551616) :
    Calls Tryz.prog 51 #[.int .u64 hi, .int .u64 lo, .int .u64 by'] w fun e w' =>
      e = .returned (.tuple #[.agg #[.int .u64 ((a : Int) + (b1 : Int)), .int .u64 b0], .bool false]) ∧ Below w.heap.size w w' := by
  have M1 := Lib.hid fun w => mul64_any hi by' 0 a (by omega) (by omega) (by omega) (by omega) w
  have M2 := Lib.hid fun w => mul64_any lo by' b1 b0 (by omega) (by omega) (by omega) hb w
  have A1 := fun w => add64_run a b1 w (by omega) (by omega) hs
  clear ha hb
  go_enter Tryz.func51, Tryz.ntmps51
  go_wp2_with fail
  refine (M1.out _).mono ?_
  rintro e w' ⟨rfl, rfl⟩
  go_wp2_with fail
  refine (M2.out _).mono ?_
  rintro e w' ⟨rfl, rfl⟩
  go_wp2
  refine bodyPost_ret (v := .tuple #[.agg #[.int .u64 ((a : Int) + (b1 : Int)), .int .u64 b0], .bool false]) (by simp [results, Tryz.results51, go_sem]) rfl ⟨rfl, ?_⟩
  go_grown

end Go.Proofs.YtooajmbpncmgjaaGreatDoor
