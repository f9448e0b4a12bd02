/- Layer 13's iterator over tokens, by contract. -/
import Derived.Test.YtooajmbpncmgjaaGreatDoorLexD
import Derived.Test.YtooajmbpncmgjaaGreatDoorLexE
import Derived.Test.YtooajmbpncmgjaaGreatDoorPlain
namespace Go.Proofs.YtooajmbpncmgjaaGreatDoor
open Go.RowKit Go.Shelf
attribute [local go_sem] Oper.semAt_some

def encTok (t : L.Tok) : Value := .agg #[.int .i64 (t.kind : Nat), .string ⟨t.text.toArray⟩, .int .i64 (t.pos : Nat)]
def encYield (x : L.Tok × Bool) : Array Value := #[encTok x.1, .bool x.2]
def badOf : Option L.Tok → List (L.Tok × Bool)
  | none => []
  | some t => [(t, false)]
/-- What the iterator hands out. -/
def yields (s : List UInt8) : List (L.Tok × Bool) := (L.scanL s).1.map (·, true) ++ badOf (L.scanL s).2

/-- Between two rounds: pre has come, the rest is still to come. -/
structure TokAt (s : List UInt8) (pre : List L.Tok) (k : Nat) : Prop where
  le : k ≤ s.length
  left : ∃ f, (s.drop k).length < f ∧ L.scanL s = (pre ++ (L.toksR f k (s.drop k)).1, (L.toksR f k (s.drop k)).2)

theorem tokAt_start (s : List UInt8) : TokAt s [] (L.spaceL s) := by
  obtain ⟨h1, h2⟩ := L.rest_drop s
  refine ⟨h2, s.length + 1, ?_, ?_⟩
  · rw [← h1]; have := L.rest_len false s; omega
  · rw [← h1]; rfl
theorem tokAt_end {s : List UInt8} {pre : List L.Tok} {k : Nat} (h : TokAt s pre k) (hk : ¬ k < s.length) : yields s = pre.map (·, true) := by
  obtain ⟨_, f, _, h⟩ := h
  have : s.drop k = [] := List.drop_eq_nil_of_le (by omega)
  rw [this, L.toksR_nil] at h
  unfold yields
  rw [h]
  simp [badOf]
theorem tokAt_bad {s : List UInt8} {pre : List L.Tok} {k : Nat} (h : TokAt s pre k) (hk : k < s.length) (x : Nat × List UInt8) (hx : L.firstL (s.drop k) = x) (ho : L.okL x = false) :
    yields s = pre.map (·, true) ++ [(L.mkTok x k, false)] := by
  obtain ⟨_, f, hf, h⟩ := h
  cases f with
  | zero => omega
  | succ f =>
    rw [L.toksR_bad f k _ (by intro h; have := congrArg List.length h; simp at this; omega) x hx ho] at h
    unfold yields
    rw [h]
    simp [badOf]
theorem tokAt_step {s : List UInt8} {pre : List L.Tok} {k : Nat} (h : TokAt s pre k) (hk : k < s.length) (x : Nat × List UInt8) (hx : L.firstL (s.drop k) = x) (ho : L.okL x = true) :
    TokAt s (pre ++ [L.mkTok x k]) (k + x.2.length + L.spaceL (s.drop (k + x.2.length))) ∧ k + x.2.length ≤ s.length ∧ 0 < x.2.length := by
  obtain ⟨_, f, hf, h⟩ := h
  have hl : x.2.length ≤ s.length - k := by have := L.firstL_len (s.drop k); rw [hx] at this; simpa using this
  have hpos : 0 < x.2.length := by
    unfold L.okL at ho
    rcases List.eq_nil_or_concat x.2 with h0 | ⟨a, b, h0⟩
    · rw [h0] at ho; simp at ho
    · rw [h0]; simp
  obtain ⟨r1, r2⟩ := L.rest_drop (s.drop (k + x.2.length))
  simp only [List.length_drop] at r2 hf
  refine ⟨⟨by omega, ?_⟩, by omega, hpos⟩
  cases f with
  | zero => omega
  | succ f =>
    rw [L.toksR_step f k _ (by intro h; have := congrArg List.length h; simp at this; omega) x hx ho] at h
    refine ⟨f, by simp; omega, ?_⟩
    rw [h]
    simp only [List.drop_drop] at r1 ⊢
    rw [r1]
    simp only [List.append_assoc, List.cons_append, List.nil_append]
theorem tokAt_more {s : List UInt8} {pre : List L.Tok} {k : Nat} (h : TokAt s pre k) (hk : k < s.length) : pre.length < (yields s).length := by
  cases ho : L.okL (L.firstL (s.drop k))
  · rw [tokAt_bad h hk _ rfl ho]; simp
  · obtain ⟨⟨_, f, _, h2⟩, _⟩ := tokAt_step h hk _ rfl ho
    unfold yields
    rw [h2]
    simp
theorem tokAt_prefix {s : List UInt8} {pre : List L.Tok} {k : Nat} (h : TokAt s pre k) : pre.map (·, true) <+: yields s := by
  obtain ⟨_, f, _, h2⟩ := h
  unfold yields
  rw [h2]
  simp

theorem first_at (s : ByteArray) (k : Nat) (w : World) (hs : s.size ≤ 65536) (hk : k < s.size) (x : Nat × List UInt8) (hx : L.firstL (s.data.toList.drop k) = x) :
    Calls Tryz.prog 44 #[.string (s.extract k s.size)] w fun e w' => e = .returned (.tuple #[.int .i64 (x.1 : Nat), .string ⟨x.2.toArray⟩]) ∧ Below w.heap.size w w' := by
  have c := first_any (s.extract k s.size) w (by rw [L.ba_drop, L.ba_size]; simp; omega) (by rw [L.ba_drop, L.ba_size]; simp; omega)
  refine c.mono ?_
  rintro e w' ⟨rfl, hb⟩
  rw [Lib.extract_to_end, hx]
  exact ⟨rfl, hb⟩
theorem space_at (s : ByteArray) (k : Nat) (w : World) (hs : s.size ≤ 65536) :
    Calls Tryz.prog 43 #[.string (s.extract k s.size)] w fun e w' => e = .returned (.int .i64 (L.spaceL (s.data.toList.drop k) : Nat)) ∧ Below w.heap.size w w' := by
  have c := space_any (s.extract k s.size) w (by rw [L.ba_drop, L.ba_size]; unfold maxLen; simp; omega)
  rw [Lib.extract_to_end] at c
  exact c

theorem grown_none {w w' : World} (h : Below w.heap.size w w') : w.grownBy w' none := ⟨h.os, h.tape, h.output, h.size, fun k hk _ => h.block k hk⟩
theorem abide {β : Type} {B : Nat} {J : β → World → Prop} (hJ : AbidesFrom B J) {s : β} {w w' : World} (h : Below w.heap.size w w') (hs : J s w) : J s w' :=
  hJ s w w' none hs (grown_none h) (fun r e => by cases e)

/-- What a round keeps for the iterator: the cell that holds the source. -/
def KeepCell (B : Nat) (A C : World) : Prop := C.cell? ⟨B, 0, none⟩ = A.cell? ⟨B, 0, none⟩

theorem cut_run (tx : List UInt8) (h : 2 ≤ tx.length) (w : World) :
    (Instr.slice 9 (.string ⟨tx.toArray⟩) (some (.int .i64 1)) (some (.int .i64 ((tx.length : Int) - 1))) none).run Tryz.prog w = .ok (.string ⟨((tx.drop 1).take (tx.length - 1 - 1)).toArray⟩) w := by
  have hs := L.ba_size tx
  have := run_slice_string (P := Tryz.prog) w 9 ⟨tx.toArray⟩ .i64 .i64 1 ((tx.length : Int) - 1) Tryz.underlying9 (by omega) (by omega) (by rw [hs]; omega)
  rw [this, L.ba_mid]
  have e : ((tx.length : Int) - 1).toNat = tx.length - 1 := by omega
  rw [e]
  rfl

theorem round_fin {s : ByteArray} {pre : List L.Tok} {k k2 : Nat} {w4 : World} {B : Nat} {J : List (L.Tok × Bool) → World → Prop} {t : L.Tok} {a b : Int}
    (h1 : TokAt s.data.toList (pre ++ [t]) k2) (h2 : w4.cell? ⟨B, 0, none⟩ = some (.string s)) (h3 : J (pre.map (·, true) ++ [(t, true)]) w4) (h4 : k2 ≤ s.size) (h5 : k < k2) (ha : a = k2) (hb : b = k) :
    (∃ (pre : List L.Tok) (k : Nat), Value.int .i64 a = .int .i64 (k : Nat) ∧ k ≤ s.size ∧ Hid (TokAt s.data.toList pre k) ∧ w4.cell? ⟨B, 0, none⟩ = some (.string s) ∧ Hid (J (pre.map (·, true)) w4)) ∧
      s.size - (intOf (Value.int .i64 a)).toNat < s.size - (intOf (Value.int .i64 b)).toNat := by
  subst ha hb
  exact ⟨⟨_, k2, rfl, h4, Lib.hid h1, h2, Lib.hid (by rw [List.map_append]; exact h3)⟩, by simp [intOf]; omega⟩

set_option maxRecDepth 100000 in
set_option maxHeartbeats 8000000 in
theorem tokens_in (n : Nat) (hn : 1 ≤ n) (B : Nat) (s : ByteArray) (hs : s.size ≤ 65536) (w0 : World) (h0 : w0.cell? ⟨B, 0, none⟩ = some (.string s)) :
    SeqStopsK Fence.wide n Tryz.prog 42 #[.pointer (some ⟨B, 0, none⟩)] encYield (KeepCell B) (fun xs => xs = yields s.data.toList) (fun pre => pre <+: yields s.data.toList) (yields s.data.toList).length w0 := by
  intro l J Jx W hW hJ hJx hY hJ0
  have g0 := (hW.cell (p := ⟨B, 0, none⟩) (lt_heap h0)).trans h0
  have SP := Lib.hid fun w => space_any s w (by unfold maxLen; omega)
  have HJ := Lib.hid hJ
  have HY := Lib.hid hY
  have HW := Lib.hid hW
  have HJ0 := Lib.hid hJ0
  have hsz : s.data.toList.length = s.size := by simp
  have HSZ := Lib.hid hsz
  clear hJ hJx hY hW hJ0 hsz
  refine callsIn_of_wp Tryz.func42 rfl trivial ?_ rfl
  simp only [Tryz.ntmps42, List.size_toArray, List.length_cons, List.length_nil, Nat.reduceAdd, Nat.reduceSub, Array.replicate_succ, Array.replicate_zero, List.push_toArray, List.append_toArray, List.nil_append, List.cons_append]
  gi_wp2_with fail
  refine ⟨trivial, (callsIn_wide.2 (SP.out _)).mono ?_⟩
  rintro e w' ⟨rfl, hb⟩
  have q0 := (hb.cell (p := ⟨B, 0, none⟩) (lt_heap g0)).trans g0
  have HB := Lib.hid hb
  clear hb
  gi_wp2_with fail
  gi_loopw [3] (fun v wr => ∃ (pre : List L.Tok) (k : Nat), v = .int .i64 (k : Nat) ∧ k ≤ s.size ∧ Hid (TokAt s.data.toList pre k) ∧ wr.cell? ⟨B, 0, none⟩ = some (.string s) ∧ Hid (J (pre.map (·, true)) wr))
    (fun v _ => s.size - (intOf v).toNat)
  case atStart =>
    refine ⟨[], _, rfl, ?_, Lib.hid (tokAt_start _), q0, Lib.hid (abide HJ.out HB.out HJ0.out)⟩
    have := (tokAt_start s.data.toList).le
    rw [HSZ.out] at this
    exact this
  case round =>
    obtain ⟨pre, k, rfl, hk, ht, r0, hJs⟩ := hrel
    by_cases hlt : k < s.size
    · obtain ⟨x, hx⟩ : ∃ x, L.firstL (s.data.toList.drop k) = x := ⟨_, rfl⟩
      have FI := Lib.hid fun w => first_at s k w hs hlt x hx
      have hlt2 : k < s.data.toList.length := by rw [HSZ.out]; exact hlt
      have hmore := tokAt_more ht.out hlt2
      have HM := Lib.hid hmore
      cases ho : L.okL x
      · obtain ⟨kd, tx⟩ := x
        have hkk : kd ≤ 3 := by have h := L.firstL_kind (s.data.toList.drop k); rw [hx] at h; exact h
        by_cases hne : tx = []
        · subst hne
          by_cases hkd : kd = 2
          · subst hkd
            have htok : L.mkTok (2, []) k = ⟨2, [], k⟩ := by simp [L.mkTok, L.textOf]
            have hyl := Lib.hid (tokAt_bad ht.out hlt2 _ hx ho)
            clear hx hmore ho hlt2
            gi_wp2_with fail
            refine ⟨trivial, (callsIn_wide.2 (FI.out _)).mono ?_⟩
            rintro e w1 ⟨rfl, hb1⟩
            have r1 := (hb1.cell (p := ⟨B, 0, none⟩) (lt_heap r0)).trans r0
            have HB1 := Lib.hid hb1
            clear hb1
            have jw := abide HJ.out ((Below.refl _ w1).alloc (Nat.le_refl _) (.cells #[.int .i64 2, .string ⟨#[]⟩, .int .i64 (k : Nat)] 41)) (abide HJ.out HB1.out hJs.out)
            obtain ⟨fn, tmps, assign, body, hy, hR⟩ := HY.out _ (L.mkTok (2, []) k, false) _ jw (by rw [List.length_map]; exact HM.out)
            rw [htok] at hy
            dsimp only [encYield, encTok] at hy
            rw [show (((2 : Nat) : Int)) = 2 from rfl] at hy
            have HR := Lib.hid hR
            clear jw hR htok
            gi_wp2_with fail
            refine HR.out.mono ?_
            rintro e W3 (⟨rfl, hJ3, hk3⟩ | ⟨rfl, hJx3⟩)
            · have HJ3 := Lib.hid hJ3
              clear hJ3 hk3
              gi_wp2_with fail
              refine bodyPost_ret (results_none rfl _ _ _) rfl ?_
              exact ⟨⟨_, rfl⟩, .inl ⟨_, hyl.out.symm, HJ3.out⟩⟩
            · have HJ3 := Lib.hid hJx3
              clear hJx3
              gi_wp2_with fail
              refine bodyPost_ret (results_none rfl _ _ _) rfl ?_
              exact ⟨⟨_, rfl⟩, .inr ⟨_, by rw [hyl.out]; exact List.prefix_refl _, HJ3.out⟩⟩
          · have k1 : ((kd : Int) == 2) = false := beq_eq_false_iff_ne.2 (by omega)
            have htok : L.mkTok (kd, []) k = ⟨kd, [], k⟩ := by simp [L.mkTok, L.textOf]
            have hyl := Lib.hid (tokAt_bad ht.out hlt2 _ hx ho)
            clear hx hmore ho hlt2 hkd
            gi_wp2_with fail
            refine ⟨trivial, (callsIn_wide.2 (FI.out _)).mono ?_⟩
            rintro e w1 ⟨rfl, hb1⟩
            have r1 := (hb1.cell (p := ⟨B, 0, none⟩) (lt_heap r0)).trans r0
            have HB1 := Lib.hid hb1
            clear hb1
            have jw := abide HJ.out ((Below.refl _ w1).alloc (Nat.le_refl _) (.cells #[.int .i64 (kd : Nat), .string ⟨#[]⟩, .int .i64 (k : Nat)] 41)) (abide HJ.out HB1.out hJs.out)
            obtain ⟨fn, tmps, assign, body, hy, hR⟩ := HY.out _ (L.mkTok (kd, []) k, false) _ jw (by rw [List.length_map]; exact HM.out)
            rw [htok] at hy
            dsimp only [encYield, encTok] at hy
            have HR := Lib.hid hR
            clear jw hR htok
            gi_wp2_with fail
            refine HR.out.mono ?_
            rintro e W3 (⟨rfl, hJ3, hk3⟩ | ⟨rfl, hJx3⟩)
            · have HJ3 := Lib.hid hJ3
              clear hJ3 hk3
              gi_wp2_with fail
              refine bodyPost_ret (results_none rfl _ _ _) rfl ?_
              exact ⟨⟨_, rfl⟩, .inl ⟨_, hyl.out.symm, HJ3.out⟩⟩
            · have HJ3 := Lib.hid hJx3
              clear hJx3
              gi_wp2_with fail
              refine bodyPost_ret (results_none rfl _ _ _) rfl ?_
              exact ⟨⟨_, rfl⟩, .inr ⟨_, by rw [hyl.out]; exact List.prefix_refl _, HJ3.out⟩⟩
        · by_cases hkd : kd = 2
          · subst hkd
            have n1 : (ByteArray.mk tx.toArray).toList.isEmpty = false := by rw [Lib.toList_data]; simpa using hne
            have n2 : tx.isEmpty = false := by simpa using hne
            have hmost2 : decide ((tx.length : Int) ≤ 502) = false := by have h := ho; simp [L.okL, L.mostL, hne] at h; simp; omega
            have htwo := L.string_two _ _ hx hne
            obtain ⟨mid, hmid⟩ : ∃ mid, (tx.drop 1).take (tx.length - 1 - 1) = mid := ⟨_, rfl⟩
            have hsl := cut_run tx htwo
            rw [hmid] at hsl

            have hlx := L.firstL_len (s.data.toList.drop k)
            rw [hx, List.length_drop, HSZ.out] at hlx
            change tx.length ≤ _ at hlx
            have hb64 : (tx.length : Int) ≤ 65536 := by omega
            have htok : L.mkTok (2, tx) k = ⟨2, mid, k⟩ := by rw [← hmid]; unfold L.mkTok L.textOf; rw [if_pos ⟨rfl, hne⟩]
            have hyl := Lib.hid (tokAt_bad ht.out hlt2 _ hx ho)
            clear hx hmore ho hlt2 hne hmid hlx
            gi_wp2_with fail
            refine ⟨trivial, (callsIn_wide.2 (FI.out _)).mono ?_⟩
            rintro e w1 ⟨rfl, hb1⟩
            have r1 := (hb1.cell (p := ⟨B, 0, none⟩) (lt_heap r0)).trans r0
            have HB1 := Lib.hid hb1
            clear hb1
            have jw := abide HJ.out ((Below.refl _ w1).alloc (Nat.le_refl _) (.cells #[.int .i64 2, .string ⟨mid.toArray⟩, .int .i64 (k : Nat)] 41)) (abide HJ.out HB1.out hJs.out)
            obtain ⟨fn, tmps, assign, body, hy, hR⟩ := HY.out _ (L.mkTok (2, tx) k, false) _ jw (by rw [List.length_map]; exact HM.out)
            rw [htok] at hy
            dsimp only [encYield, encTok] at hy
            rw [show (((2 : Nat) : Int)) = 2 from rfl] at hy
            have HR := Lib.hid hR
            clear jw hR htok
            gi_wp2_with fail
            refine HR.out.mono ?_
            rintro e W3 (⟨rfl, hJ3, hk3⟩ | ⟨rfl, hJx3⟩)
            · have HJ3 := Lib.hid hJ3
              clear hJ3 hk3
              gi_wp2_with fail
              refine bodyPost_ret (results_none rfl _ _ _) rfl ?_
              exact ⟨⟨_, rfl⟩, .inl ⟨_, hyl.out.symm, HJ3.out⟩⟩
            · have HJ3 := Lib.hid hJx3
              clear hJx3
              gi_wp2_with fail
              refine bodyPost_ret (results_none rfl _ _ _) rfl ?_
              exact ⟨⟨_, rfl⟩, .inr ⟨_, by rw [hyl.out]; exact List.prefix_refl _, HJ3.out⟩⟩
          · have k1 : ((kd : Int) == 2) = false := beq_eq_false_iff_ne.2 (by omega)
            have n1 : (ByteArray.mk tx.toArray).toList.isEmpty = false := by rw [Lib.toList_data]; simpa using hne
            have n2 : tx.isEmpty = false := by simpa using hne
            have hmost2 : decide ((tx.length : Int) ≤ 24) = false := by have h := ho; simp [L.okL, L.mostL, hne, hkd] at h; simp; omega
            have htok : L.mkTok (kd, tx) k = ⟨kd, tx, k⟩ := by simp [L.mkTok, L.textOf, hkd]
            have hyl := Lib.hid (tokAt_bad ht.out hlt2 _ hx ho)
            clear hx hmore ho hlt2 hne hkd
            gi_wp2_with fail
            refine ⟨trivial, (callsIn_wide.2 (FI.out _)).mono ?_⟩
            rintro e w1 ⟨rfl, hb1⟩
            have r1 := (hb1.cell (p := ⟨B, 0, none⟩) (lt_heap r0)).trans r0
            have HB1 := Lib.hid hb1
            clear hb1
            have jw := abide HJ.out ((Below.refl _ w1).alloc (Nat.le_refl _) (.cells #[.int .i64 (kd : Nat), .string ⟨tx.toArray⟩, .int .i64 (k : Nat)] 41)) (abide HJ.out HB1.out hJs.out)
            obtain ⟨fn, tmps, assign, body, hy, hR⟩ := HY.out _ (L.mkTok (kd, tx) k, false) _ jw (by rw [List.length_map]; exact HM.out)
            rw [htok] at hy
            dsimp only [encYield, encTok] at hy
            have HR := Lib.hid hR
            clear jw hR htok
            gi_wp2_with fail
            refine HR.out.mono ?_
            rintro e W3 (⟨rfl, hJ3, hk3⟩ | ⟨rfl, hJx3⟩)
            · have HJ3 := Lib.hid hJ3
              clear hJ3 hk3
              gi_wp2_with fail
              refine bodyPost_ret (results_none rfl _ _ _) rfl ?_
              exact ⟨⟨_, rfl⟩, .inl ⟨_, hyl.out.symm, HJ3.out⟩⟩
            · have HJ3 := Lib.hid hJx3
              clear hJx3
              gi_wp2_with fail
              refine bodyPost_ret (results_none rfl _ _ _) rfl ?_
              exact ⟨⟨_, rfl⟩, .inr ⟨_, by rw [hyl.out]; exact List.prefix_refl _, HJ3.out⟩⟩
      · obtain ⟨ht2, hle, hpos⟩ := tokAt_step ht.out hlt2 x hx ho
        have hle2 : k + x.2.length ≤ s.size := by rw [HSZ.out] at hle; exact hle
        have HT2 := Lib.hid ht2
        obtain ⟨kd, tx⟩ := x
        dsimp only at *
        have hne : ¬ tx = [] := by intro h; subst h; simp at hpos
        have hkk : kd ≤ 3 := by have h := L.firstL_kind (s.data.toList.drop k); rw [hx] at h; exact h
        have SP2 := Lib.hid fun w => space_at s (k + tx.length) w hs
        by_cases hkd : kd = 2
        · subst hkd
          have n1 : (ByteArray.mk tx.toArray).toList.isEmpty = false := by rw [Lib.toList_data]; simpa using hne
          have n2 : tx.isEmpty = false := by simpa using hne
          have hmost2 : decide ((tx.length : Int) ≤ 502) = true := by have h := ho; simp [L.okL, L.mostL, hne] at h; simp; omega
          have htwo := L.string_two _ _ hx hne
          obtain ⟨mid, hmid⟩ : ∃ mid, (tx.drop 1).take (tx.length - 1 - 1) = mid := ⟨_, rfl⟩
          have hsl := cut_run tx htwo
          rw [hmid] at hsl

          have hlx := L.firstL_len (s.data.toList.drop k)
          rw [hx, List.length_drop, HSZ.out] at hlx
          change tx.length ≤ _ at hlx
          have hb64 : (tx.length : Int) ≤ 65536 := by omega
          have htok : L.mkTok (2, tx) k = ⟨2, mid, k⟩ := by rw [← hmid]; unfold L.mkTok L.textOf; rw [if_pos ⟨rfl, hne⟩]
          have hty := ht2.le
          rw [HSZ.out] at hty
          clear hx hmore ho hlt2 ht2 hle hne hmid hlx
          gi_wp2_with fail
          refine ⟨trivial, (callsIn_wide.2 (FI.out _)).mono ?_⟩
          rintro e w1 ⟨rfl, hb1⟩
          have r1 := (hb1.cell (p := ⟨B, 0, none⟩) (lt_heap r0)).trans r0
          have HB1 := Lib.hid hb1
          clear hb1
          have jw := abide HJ.out ((Below.refl _ w1).alloc (Nat.le_refl _) (.cells #[.int .i64 2, .string ⟨mid.toArray⟩, .int .i64 (k : Nat)] 41)) (abide HJ.out HB1.out hJs.out)
          obtain ⟨fn, tmps, assign, body, hy, hR⟩ := HY.out _ (L.mkTok (2, tx) k, true) _ jw (by rw [List.length_map]; exact HM.out)
          rw [htok] at hy
          dsimp only [encYield, encTok] at hy
          rw [show (((2 : Nat) : Int)) = 2 from rfl] at hy
          have HR := Lib.hid hR
          clear jw hR htok
          gi_wp2_with fail
          refine HR.out.mono ?_
          rintro e W3 (⟨rfl, hJ3, hk3⟩ | ⟨rfl, hJx3⟩)
          · have r3 := Eq.trans hk3 ((World.cell?_alloc_lt w1 (.cells #[.int .i64 2, .string ⟨mid.toArray⟩, .int .i64 (k : Nat)] 41) ⟨B, 0, none⟩ (lt_heap r1)).trans r1)
            have HJ3 := Lib.hid hJ3
            clear hJ3 hk3
            gi_wp2_with fail
            refine ⟨trivial, (callsIn_wide.2 (SP2.out _)).mono ?_⟩
            rintro e w4 ⟨rfl, hb4⟩
            have r4 := (hb4.cell (p := ⟨B, 0, none⟩) (lt_heap r3)).trans r3
            have HB4 := Lib.hid hb4
            clear hb4
            gi_wp2_with fail
            exact round_fin HT2.out r4 (abide HJ.out HB4.out HJ3.out) hty (by omega) (by omega) rfl
          · have HJ3 := Lib.hid hJx3
            clear hJx3
            gi_wp2_with fail
            refine bodyPost_ret (results_none rfl _ _ _) rfl ?_
            exact ⟨⟨_, rfl⟩, .inr ⟨_, by have h := tokAt_prefix HT2.out; rw [List.map_append] at h; exact h, HJ3.out⟩⟩
        · have k1 : ((kd : Int) == 2) = false := beq_eq_false_iff_ne.2 (by omega)
          have n1 : (ByteArray.mk tx.toArray).toList.isEmpty = false := by rw [Lib.toList_data]; simpa using hne
          have n2 : tx.isEmpty = false := by simpa using hne
          have hmost2 : decide ((tx.length : Int) ≤ 24) = true := by have h := ho; simp [L.okL, L.mostL, hne, hkd] at h; simp; omega
          have htok : L.mkTok (kd, tx) k = ⟨kd, tx, k⟩ := by simp [L.mkTok, L.textOf, hkd]
          have hty := ht2.le
          rw [HSZ.out] at hty
          clear hx hmore ho hlt2 ht2 hle hne hkd
          gi_wp2_with fail
          refine ⟨trivial, (callsIn_wide.2 (FI.out _)).mono ?_⟩
          rintro e w1 ⟨rfl, hb1⟩
          have r1 := (hb1.cell (p := ⟨B, 0, none⟩) (lt_heap r0)).trans r0
          have HB1 := Lib.hid hb1
          clear hb1
          have jw := abide HJ.out ((Below.refl _ w1).alloc (Nat.le_refl _) (.cells #[.int .i64 (kd : Nat), .string ⟨tx.toArray⟩, .int .i64 (k : Nat)] 41)) (abide HJ.out HB1.out hJs.out)
          obtain ⟨fn, tmps, assign, body, hy, hR⟩ := HY.out _ (L.mkTok (kd, tx) k, true) _ jw (by rw [List.length_map]; exact HM.out)
          rw [htok] at hy
          dsimp only [encYield, encTok] at hy
          have HR := Lib.hid hR
          clear jw hR htok
          gi_wp2_with fail
          refine HR.out.mono ?_
          rintro e W3 (⟨rfl, hJ3, hk3⟩ | ⟨rfl, hJx3⟩)
          · have r3 := Eq.trans hk3 ((World.cell?_alloc_lt w1 (.cells #[.int .i64 (kd : Nat), .string ⟨tx.toArray⟩, .int .i64 (k : Nat)] 41) ⟨B, 0, none⟩ (lt_heap r1)).trans r1)
            have HJ3 := Lib.hid hJ3
            clear hJ3 hk3
            gi_wp2_with fail
            refine ⟨trivial, (callsIn_wide.2 (SP2.out _)).mono ?_⟩
            rintro e w4 ⟨rfl, hb4⟩
            have r4 := (hb4.cell (p := ⟨B, 0, none⟩) (lt_heap r3)).trans r3
            have HB4 := Lib.hid hb4
            clear hb4
            gi_wp2_with fail
            exact round_fin HT2.out r4 (abide HJ.out HB4.out HJ3.out) hty (by omega) (by omega) rfl
          · have HJ3 := Lib.hid hJx3
            clear hJx3
            gi_wp2_with fail
            refine bodyPost_ret (results_none rfl _ _ _) rfl ?_
            exact ⟨⟨_, rfl⟩, .inr ⟨_, by have h := tokAt_prefix HT2.out; rw [List.map_append] at h; exact h, HJ3.out⟩⟩
    · have hlt2 : ¬ k < s.data.toList.length := by rw [HSZ.out]; exact hlt
      have hyl := Lib.hid (tokAt_end ht.out hlt2)
      clear hlt2
      gi_wp2_with fail
      go_end0
      exact ⟨⟨_, rfl⟩, .inl ⟨_, hyl.out.symm, hJs.out⟩⟩
end Go.Proofs.YtooajmbpncmgjaaGreatDoor
