/- Layer 15's written trees: tree.Write, by contract. -/
import Derived.Test.YtooajmbpncmgjaaGreatDoorWriteMath
import Derived.Test.YtooajmbpncmgjaaGreatDoorBuilder
namespace Go.Proofs.YtooajmbpncmgjaaGreatDoor
open Go.RowKit

/-- Behind a step of a walk that writes to the builder in block bb. -/
structure Kp (bb : Nat) (w w' : World) : Prop where
  old : Below bb w w'
  oth : Lib.OthersKept 5 (some bb) w w'
theorem Kp.refl (bb : Nat) (w : World) : Kp bb w w := ⟨Below.refl _ _, Lib.OthersKept.refl _ _ _⟩
theorem Kp.trans {bb : Nat} {a b c : World} (h : Kp bb a b) (k : Kp bb b c) : Kp bb a c := ⟨h.old.trans k.old, h.oth.trans k.oth⟩
theorem Kp.below {bb : Nat} {w w' : World} (hb : Below w.heap.size w w') (h : bb ≤ w.heap.size) : Kp bb w w' :=
  ⟨hb.mono h, fun k _ hk _ _ => (hb.block k (Array.getElem?_eq_some_iff.1 hk).1).trans hk⟩
theorem Kp.alloc {bb : Nat} {w : World} (h : bb ≤ w.heap.size) (o : Obj) : Kp bb w (w.alloc o) := Kp.below ((Below.refl _ _).alloc (Nat.le_refl _) _) h
theorem Kp.row {bb k : Nat} {w w' : World} {cs : Array Value} {T : TypeId} {fr : Nat × Nat} (h : Kp bb w w') (hk : w.heap[k]? = some (.cells cs T fr)) (hT : T ≠ 5) (hn : k ≠ bb) : w'.heap[k]? = some (.cells cs T fr) :=
  h.oth k _ hk (fun e => hn (by injection e)) (fun c fz e => hT (by injection e))
/-- The builder holds these bytes. -/
def BAt (bb : Nat) (bs : List UInt8) (w : World) : Prop := Lib.IsBuilderF 50 5 bb bb (Lib.byteCells bs) w
theorem BAt.below {bb : Nat} {bs : List UInt8} {w w' : World} (h : BAt bb bs w) (hb : Below w.heap.size w w') : BAt bb bs w' := by
  have q : ∀ p, Lib.BuilderAtF 50 5 bb bb p (Lib.byteCells bs) w → Lib.BuilderAtF 50 5 bb bb p (Lib.byteCells bs) w' := fun p h => by
    have hlt := h.lt
    obtain ⟨hB, v, hv, hown, hne⟩ := h
    exact ⟨hB, v, (hb.block bb hlt).trans hv, hown.kept (grown_none hb) (by cases v.ownBlock <;> simp), hne⟩
  rcases h with h | h
  · exact .inl (q _ h)
  · exact .inr (q _ h)
theorem BAt.lt {bb : Nat} {bs : List UInt8} {w : World} (h : BAt bb bs w) : bb < w.heap.size := by
  rcases h with h | h
  · exact h.lt
  · exact h.lt
theorem BAt.start (w : World) : BAt w.heap.size [] (w.alloc (.cells #[.pointer none, .slice none 0 0] 50)) :=
  .inl ⟨Nat.le_refl _, _, heap_alloc_new _ _, ⟨rfl, .inl ⟨rfl, rfl⟩⟩, by simp [Value.ownBlock]⟩
theorem byteCells_app (a b : List UInt8) : Lib.byteCells a ++ Lib.byteCells b = Lib.byteCells (a ++ b) := by simp [Lib.byteCells]
theorem strCells_of (s : List UInt8) : Lib.strCells ⟨s.toArray⟩ = Lib.byteCells s := by simp [Lib.strCells, Lib.byteCells]
theorem byteCells_len (a : List UInt8) : (Lib.byteCells a).length = a.length := by simp [Lib.byteCells]
theorem write_step {bb : Nat} {bs : List UInt8} {w : World} (s : List UInt8) (h : BAt bb bs w) (hl : bs.length + s.length ≤ 140737488355328) :
    Calls Tryz.prog 18 #[.pointer (some ⟨bb, 0, none⟩), .string ⟨s.toArray⟩] w fun e w' => e = .returned (.tuple #[.int .i64 (s.length : Nat), .nilIface]) ∧ BAt bb (bs ++ s) w' ∧ Kp bb w w' := by
  have hlt := h.lt
  refine (Tryz.writeString bb bb (Lib.byteCells bs) ⟨s.toArray⟩ w h (by rw [byteCells_len]; exact hl) (Nat.le_of_lt hlt)).mono ?_
  rintro e w' ⟨rfl, h1, h2, h3⟩
  rw [strCells_of, byteCells_app] at h1
  exact ⟨rfl, .inr h1, h2, h3⟩

structure WrAt (bb : Nat) (w0 wr : World) (bs : List UInt8) : Prop where
  kp : Kp bb w0 wr
  ba : BAt bb bs wr
theorem WrAt.below {bb : Nat} {w0 wr w' : World} {bs : List UInt8} (h : WrAt bb w0 wr bs) (hb : Below wr.heap.size wr w') : WrAt bb w0 w' bs :=
  ⟨h.kp.trans (Kp.below hb (Nat.le_of_lt h.ba.lt)), h.ba.below hb⟩
theorem WrAt.alloc {bb : Nat} {w0 wr : World} {bs : List UInt8} (h : WrAt bb w0 wr bs) (o : Obj) : WrAt bb w0 (wr.alloc o) bs := h.below ((Below.refl _ _).alloc (Nat.le_refl _) _)
theorem WrAt.wrote {bb : Nat} {w0 wr w' : World} {bs bs' : List UInt8} (h : WrAt bb w0 wr bs) (hk : Kp bb wr w') (hb : BAt bb bs' w') : WrAt bb w0 w' bs' := ⟨h.kp.trans hk, hb⟩
theorem WrAt.from_ {bb : Nat} {w0 w1 w2 : World} {bs bs' : List UInt8} (h : WrAt bb w0 w1 bs) (k : WrAt bb w1 w2 bs') : WrAt bb w0 w2 bs' := ⟨h.kp.trans k.kp, k.ba⟩

theorem Tr.right_decl {t : Tr.Tree} (h : Tr.rightB t = true) (k : Nat) (hk : k < t.kids.length) : Tr.declB t.kids[k] = true := by
  unfold Tr.rightB at h
  simp at h
  exact h.2.2 _ (List.getElem_mem hk)
theorem Tr.words_to (l : List Tr.Tree) (h : ∀ k (hk : k < l.length), (if Tr.wordsTo l (k + 1) then Tr.valueB 40 l[k] else Tr.propB l[k]) = true) (k : Nat) (hk : k < l.length) : (k < Tr.words l → Tr.valueB 40 l[k] = true) ∧ (Tr.words l ≤ k → Tr.propB l[k] = true) := by
  have hw : ∀ j, j ≤ Tr.words l → Tr.wordsTo l j = true := fun j => by
    induction j with
    | zero => intro _; simp [Tr.wordsTo]
    | succ j ih =>
      intro hj
      have hjl : j < l.length := Nat.lt_of_lt_of_le hj (Tr.words_le l)
      have h1 := h j hjl
      have h2 := (Tr.words_at l j hjl).1 hj
      rw [wordsTo_succ l j hjl, ih (by omega), Bool.true_and] at h1 ⊢
      by_cases hb : Tr.wordB l[j] = true
      · exact hb
      · rw [if_neg hb] at h1
        unfold Tr.propB at h1
        simp at h1
        exact absurd h1.1 h2
  have hp : ∀ j, Tr.words l + j < l.length → Tr.wordsTo l (Tr.words l + j + 1) = false := fun j => by
    induction j with
    | zero =>
      intro hj
      have h2 := (Tr.words_at l _ hj).2 rfl
      rw [Nat.add_zero, wordsTo_succ l _ hj]
      unfold Tr.wordB
      simp only [Nat.add_zero] at h2
      simp [h2]
    | succ j ih =>
      intro hj
      rw [wordsTo_succ l _ hj, show Tr.wordsTo l (Tr.words l + (j + 1)) = false from ih (by omega)]
      rfl
  have h1 := h k hk
  refine ⟨fun hlt => ?_, fun hge => ?_⟩
  · rwa [hw (k + 1) hlt] at h1
  · obtain ⟨j, rfl⟩ : ∃ j, k = Tr.words l + j := ⟨k - Tr.words l, by omega⟩
    rwa [hp j hk] at h1
theorem Tr.decl_kids {t : Tr.Tree} (h : Tr.declB t = true) (k : Nat) (hk : k < t.kids.length) : (k < Tr.words t.kids → Tr.valueB 40 t.kids[k] = true) ∧ (Tr.words t.kids ≤ k → Tr.propB t.kids[k] = true) := by
  unfold Tr.declB at h
  simp only [Bool.and_eq_true] at h
  refine Tr.words_to t.kids (fun j hj => ?_) k hk
  have := List.all_eq_true.1 h.2.2.2 j (List.mem_range.2 hj)
  unfold Tr.stepD at this
  rw [List.getElem?_eq_getElem hj] at this
  exact this
theorem Tr.prop_kids {t : Tr.Tree} (h : Tr.propB t = true) (k : Nat) (hk : k < t.kids.length) : Tr.valueB 40 t.kids[k] = true := by
  unfold Tr.propB at h
  simp only [Bool.and_eq_true] at h
  have := List.all_eq_true.1 h.2.2.2 k (List.mem_range.2 hk)
  unfold Tr.stepB at this
  rw [List.getElem?_eq_getElem hk] at this
  simp only [Bool.and_eq_true] at this
  exact this.1
theorem Tr.nodes_at (d : Nat) (t : Tr.Tree) (k : Nat) (hk : k < t.kids.length) : Tr.nodes (d - 1) t.kids[k] ≤ Tr.nodes d t := by
  cases d with
  | zero => simp [Tr.nodes]
  | succ d =>
    have := Tr.nodes_kid d _ _ (List.getElem_mem hk)
    rw [Tr.nodes, Nat.add_sub_cancel]
    omega
theorem Tr.wrF_at (t : Tr.Tree) (k : Nat) (hk : k < t.kids.length) : ((t.kids.take k).flatMap Tr.wrD).length + (Tr.wrD t.kids[k]).length ≤ (Tr.wrF t).length := Tr.flat_len _ _ _ hk
theorem Tr.wrD_size (t : Tr.Tree) : (Tr.wrD t).length = t.text.length + (((t.kids.take (Tr.words t.kids)).flatMap Tr.wrS).length + (((t.kids.drop (Tr.words t.kids)).flatMap Tr.wrP).length + 5)) := by
  unfold Tr.wrD; simp only [List.length_cons, List.length_append, List.length_nil]
theorem Tr.wrP_size (t : Tr.Tree) : (Tr.wrP t).length = t.text.length + ((t.kids.flatMap Tr.wrS).length + 4) := by
  unfold Tr.wrP; simp only [List.length_cons, List.length_append, List.length_nil]; omega

theorem KidAt.kept {w w' : World} {a : Addr} {k lim d : Nat} {o' : Option Addr} {c' : Nat} {t : Tr.Tree} (h : KidAt w a k lim d o' c' t) (hb : Below lim w w') : KidAt w' a k lim d o' c' t := by
  have q : ∀ j, w'.cell? ⟨(a.add (k * 6)).block, (a.add (k * 6)).off + j, none⟩ = w.cell? ⟨(a.add (k * 6)).block, (a.add (k * 6)).off + j, none⟩ := fun j => hb.cell (p := ⟨(a.add (k * 6)).block, (a.add (k * 6)).off + j, none⟩) (by rw [add_block]; exact h.lt)
  exact ⟨NodeRd.kept hb _ _ _ h.rd, h.lt, (hb.cell (by rw [add_block]; exact h.lt)).trans h.c0, (q 1).trans h.c1, (q 2).trans h.c2, (q 3).trans h.c3, (q 4).trans h.c4, (q 5).trans h.c5⟩
theorem cat_one (a x : List UInt8) : (ByteArray.mk a.toArray ++ ByteArray.mk x.toArray) = ⟨(a ++ x).toArray⟩ := L.ba_ext (by simp)
theorem Write_bad {w : World} {lim d : Nat} {v : Value} {t : Tr.Tree} (h : NodeRd w lim d v t) (hl : lim ≤ w.heap.size) (hs : Std w) (hr : Tr.rightB t = false) :
    Calls Tryz.prog 10 #[v] w fun e w' => e = .returned (.string ⟨#[]⟩) ∧ Below w.heap.size w w' := by
  obtain ⟨o, c, rfl, hm, htx⟩ := h.look
  have hr1 := right_any (h.kept (w' := w.alloc (.cells #[.int .i64 t.kind, .string ⟨t.text.toArray⟩, .int .i64 t.num, .int .i64 t.dim, .int .i64 t.pos, .slice o t.kids.length c] 26)) ((Below.refl _ _).alloc hl _)) (by rw [World.size_alloc]; omega) (hs.below ((Below.refl _ _).alloc (Nat.le_refl _) _))
  rw [hr] at hr1
  have RC := Lib.hid hr1
  clear h hs hr1 hr
  go_enter Tryz.func10, Tryz.ntmps10
  go_wp2_with fail
  refine RC.out.mono ?_
  rintro e w1 ⟨rfl, hb1⟩
  have HB := Lib.hid (Boxed.of hb1).all
  clear hb1
  go_wp2_with fail
  go_ret
  exact ⟨rfl, HB.out⟩

set_option maxRecDepth 100000 in
set_option maxHeartbeats 4000000 in
theorem Write_good {w : World} {lim d : Nat} {v : Value} {t : Tr.Tree} (h : NodeRd w lim d v t) (hl : lim ≤ w.heap.size) (hs : Std w) (hr : Tr.rightB t = true) (hn : Tr.nodes d t ≤ 100000) :
    Calls Tryz.prog 10 #[v] w fun e w' => e = .returned (.string ⟨(Tr.wrF t).toArray⟩) ∧ Below w.heap.size w w' := by
  have hlen := Tr.wrF_len d t (NodeRd.deep _ _ _ h) (NodeRd.short _ _ _ h)
  have hlen2 : (Tr.wrF t).length ≤ 100001000000 := Nat.le_trans hlen (Nat.mul_le_mul_left 1000010 hn)
  obtain ⟨o, c, rfl, hm, htx⟩ := h.look
  unfold maxLen at hm
  have hr1 := right_any (h.kept (w' := w.alloc (.cells #[.int .i64 t.kind, .string ⟨t.text.toArray⟩, .int .i64 t.num, .int .i64 t.dim, .int .i64 t.pos, .slice o t.kids.length c] 26)) ((Below.refl _ _).alloc hl _)) (by rw [World.size_alloc]; omega) (hs.below ((Below.refl _ _).alloc (Nat.le_refl _) _))
  rw [hr] at hr1
  have RC := Lib.hid hr1
  have H := Lib.hid h
  have HSTD := Lib.hid hs
  have HR := Lib.hid hr
  have HN := Lib.hid hn
  have HLEN := Lib.hid hlen2
  clear h hs hr1 hr hn hlen hlen2
  go_enter Tryz.func10, Tryz.ntmps10
  go_wp2_with fail
  refine RC.out.mono ?_
  rintro e w1 ⟨rfl, hb1⟩
  have hbx := Boxed.of hb1
  obtain ⟨b0, b1, b2, b3, b4, b5⟩ := cells6 hbx.row
  have HBX := Lib.hid hbx
  have HBA := Lib.hid (BAt.start w1)
  have hz1 : w.heap.size < w1.heap.size := hbx.size
  have hz2 : ¬ w.heap.size = w1.heap.size := by omega
  clear hb1 hbx
  go_wp2_with fail
  clear b0 b1 b2 b3 b4 b5
  have HROOT : Hid ((w1.alloc (.cells #[.pointer none, .slice none 0 0] 50)).heap[w.heap.size]? = some (.cells #[.int .i64 t.kind, .string ⟨t.text.toArray⟩, .int .i64 t.num, .int .i64 t.dim, .int .i64 t.pos, .slice o t.kids.length c] 26 (0, 0))) := Lib.hid (row_alloc HBX.out.row _)
  have HOLD : Hid (Below w.heap.size w (w1.alloc (.cells #[.pointer none, .slice none 0 0] 50))) := Lib.hid (HBX.out.all.trans (((Below.refl _ _).alloc (Nat.le_refl _) _).mono (Nat.le_of_lt HBX.out.size)))
  go_loopw [17] (fun t17 wr => ∃ k : Nat, t17 = .int .i64 k ∧ Hid (k ≤ t.kids.length) ∧ Hid (WrAt w1.heap.size (w1.alloc (.cells #[.pointer none, .slice none 0 0] 50)) wr ((t.kids.take k).flatMap Tr.wrD))) (fun t17 _ => t.kids.length - (intOf t17).toNat)
  case atStart => exact ⟨0, rfl, Lib.hid (Nat.zero_le _), Lib.hid ⟨Kp.refl _ _, HBA.out⟩⟩
  case round =>
    obtain ⟨wo, rfl⟩ : ∃ wo : World, wo = wr := ⟨_, rfl⟩
    obtain ⟨k, rfl, hkl, hW⟩ := hrel
    rcases Nat.lt_or_ge k t.kids.length with hlt | hge
    · have hold : Below w.heap.size w wo := HOLD.out.trans (hW.out.kp.old.mono (by omega))
      obtain ⟨a, o', c', rfl, hkid0⟩ := H.out.kid k hlt
      have hkid := hkid0.kept (hold.mono hl)
      have hdecl := Tr.right_decl HR.out k hlt
      have hnk := Tr.nodes_at d t k hlt
      have hll := Tr.wrF_at t k hlt
      have htk := Tr.flat_take Tr.wrD t.kids k hlt
      generalize hkd : t.kids[k] = kd at *
      have KRD := Lib.hid hkid0.rd
      have HKM : Hid (kd.kids.length ≤ 9223372036854775807) := by
        have hx := hkid0.rd.look
        obtain ⟨_, _, _, hx, _⟩ := hx
        unfold maxLen at hx
        exact Lib.hid hx
      have HCAP := Lib.hid hkid0.rd.cap
      obtain ⟨krd, ka, k0, k1, k2, k3, k4, k5⟩ := hkid
      have i0 : (0 : Int) ≤ (k : Nat) := by omega
      have i1 : ((k : Nat) : Int) < (t.kids.length : Nat) := by omega
      have hws := Tr.wrD_size kd
      have hLEN := HLEN.out
      have hls : lim ≤ wo.heap.size := Nat.le_trans hl hold.size
      have HWA := Lib.hid (hW.out.alloc (.cells #[.int .i64 kd.kind, .string ⟨kd.text.toArray⟩, .int .i64 kd.num, .int .i64 kd.dim, .int .i64 kd.pos, .slice o' kd.kids.length c'] 26))
      have HROW : Hid ((wo.alloc (.cells #[.int .i64 kd.kind, .string ⟨kd.text.toArray⟩, .int .i64 kd.num, .int .i64 kd.dim, .int .i64 kd.pos, .slice o' kd.kids.length c'] 26)).heap[wo.heap.size]? = some (.cells #[.int .i64 kd.kind, .string ⟨kd.text.toArray⟩, .int .i64 kd.num, .int .i64 kd.dim, .int .i64 kd.pos, .slice o' kd.kids.length c'] 26 (0, 0))) := Lib.hid (heap_alloc_new _ _)
      have hbw : w1.heap.size < wo.heap.size := hW.out.ba.lt
      have HL : Hid (((t.kids.take k).flatMap Tr.wrD).length + (kd.text.length + (((kd.kids.take (Tr.words kd.kids)).flatMap Tr.wrS).length + (((kd.kids.drop (Tr.words kd.kids)).flatMap Tr.wrP).length + 5))) ≤ 100001000000) := Lib.hid (by omega)
      have HDECL := Lib.hid hdecl
      have HNK : Hid (Tr.nodes (d - 1) kd ≤ 100000) := Lib.hid (Nat.le_trans hnk HN.out)
      have HTK := Lib.hid htk
      have HOLDR := Lib.hid hold
      clear krd hdecl hnk htk hll hws hLEN hold hkid0
      go_wp2_with fail
      refine (write_step kd.text HWA.out.ba (by have := HL.out; omega)).mono ?_
      rintro e w2 ⟨rfl, hba, hkp⟩
      have hrow2 := hkp.row HROW.out (by decide) (by omega)
      obtain ⟨q0, q1, q2, q3, q4, q5⟩ := cells6 hrow2
      have HROW2 := Lib.hid hrow2
      have HW2 := Lib.hid (HWA.out.wrote hkp hba)
      have HOLD2 : Hid (Below w.heap.size w w2) := Lib.hid (HOLDR.out.trans ((((Below.refl _ wo).alloc (Nat.le_refl _) _).mono (by have := HOLDR.out.size; omega)).trans (hkp.old.mono (by omega))))
      clear hba hkp hrow2
      go_wp2_with fail
      clear q0 q1 q2 q3 q4 q5 k0 k1 k2 k3 k4 k5
      go_loopw [6] (fun t6 w3 => ∃ j : Nat, t6 = .int .i64 j ∧ Hid (j ≤ Tr.words kd.kids) ∧ Hid (WrAt w1.heap.size w2 w3 ((t.kids.take k).flatMap Tr.wrD ++ kd.text ++ (kd.kids.take j).flatMap Tr.wrS))) (fun t6 _ => kd.kids.length + 1 - (intOf t6).toNat)
      case atStart => exact ⟨0, rfl, Lib.hid (Nat.zero_le _), Lib.hid ⟨Kp.refl _ _, by simpa using HW2.out.ba⟩⟩
      case round =>
        obtain ⟨w3, rfl⟩ : ∃ w3 : World, w3 = wr := ⟨_, rfl⟩
        obtain ⟨j, rfl, hj, hX⟩ := hrel
        have hold3 : Below w.heap.size w w3 := HOLD2.out.trans (hX.out.kp.old.mono (by omega))
        have hrow3 := hX.out.kp.row HROW2.out (by decide) (by omega)
        obtain ⟨q0, q1, q2, q3, q4, q5⟩ := cells6 hrow3
        have hkm : kd.kids.length ≤ 9223372036854775807 := HKM.out
        rcases Nat.lt_or_ge j (Tr.words kd.kids) with hjw | hjw
        · have hjl : j < kd.kids.length := Nat.lt_of_lt_of_le hjw (Tr.words_le _)
          obtain ⟨a2, o2, c2, rfl, hkid2⟩ := KRD.out.kid j hjl
          have hkid3 := hkid2.kept (hold3.mono hl)
          have hkind := (Tr.words_at _ j hjl).1 hjw
          have hval := (Tr.decl_kids HDECL.out j hjl).1 hjw
          have hnj := Tr.nodes_at (d - 1) kd j hjl
          have htj := Tr.flat_take Tr.wrS kd.kids j hjl
          have hlj := Tr.flat_len Tr.wrS (kd.kids.take (Tr.words kd.kids)) j (by rw [List.length_take]; omega)
          rw [List.getElem_take, List.take_take, Nat.min_eq_left (Nat.le_of_lt hjw)] at hlj
          generalize hkj : kd.kids[j] = kj at *
          have KRJ := Lib.hid hkid3.rd
          obtain ⟨pr, ja, p0, p1, p2, p3, p4, p5⟩ := hkid3
          have j0 : (0 : Int) ≤ (j : Nat) := by omega
          have j1 : ((j : Nat) : Int) < (kd.kids.length : Nat) := by omega
          have hls3 : lim ≤ w3.heap.size := Nat.le_trans hl hold3.size
          have hsw3 : (Tr.wrS kj).length = (Tr.wrV kj).length + 1 := by simp [Tr.wrS]
          have HLJ : Hid (((t.kids.take k).flatMap Tr.wrD ++ kd.text ++ (kd.kids.take j).flatMap Tr.wrS).length + (Tr.wrS kj).length ≤ 100001000000) := Lib.hid (by have := HL.out; simp only [List.length_append]; omega)
          have HVC := Lib.hid (writev_any hval KRJ.out hls3 (HSTD.out.below hold3) (Nat.le_trans hnj HNK.out))
          have HTJ := Lib.hid htj
          have hq1 : ¬ 9223372036854775807 < 1 + (Tr.wrV kj).length := by have := HLJ.out; omega
          have HROW3 := Lib.hid hrow3
          clear pr hval hnj htj hlj hkid2 hrow3 hsw3
          go_wp2_with fail
          refine HVC.out.mono ?_
          rintro e w4 ⟨rfl, hb4⟩
          have HX4 := Lib.hid (hX.out.below hb4)
          clear hb4
          go_wp2_with fail
          rw [cat_one [32] (Tr.wrV kj)]
          refine (write_step (Tr.wrS kj) HX4.out.ba (by have := HLJ.out; omega)).mono ?_
          rintro e w5 ⟨rfl, hba5, hkp5⟩
          have HX5 := Lib.hid (HX4.out.wrote hkp5 hba5)
          clear hba5 hkp5
          go_wp2_with fail
          exact ⟨⟨j + 1, by go_num, Lib.hid hjw, Lib.hid (by rw [HTJ.out, ← List.append_assoc]; exact HX5.out)⟩, by simp [intOf]; omega⟩
        · have hje : j = Tr.words kd.kids := Nat.le_antisymm hj.out hjw
          have HJE := Lib.hid hje
          have HROW3 := Lib.hid hrow3
          have HOLD3 := Lib.hid hold3
          clear hje hrow3 hold3
          rcases Nat.lt_or_ge j kd.kids.length with hjl | hjl
          · obtain ⟨a2, o2, c2, rfl, hkid2⟩ := KRD.out.kid j hjl
            have hkid3 := hkid2.kept (HOLD3.out.mono hl)
            have hkind := (Tr.words_at _ j hjl).2 HJE.out
            obtain ⟨pr, ja, p0, p1, p2, p3, p4, p5⟩ := hkid3
            rw [hkind] at p0
            have j0 : (0 : Int) ≤ (j : Nat) := by omega
            have j1 : ((j : Nat) : Int) < (kd.kids.length : Nat) := by omega
            have hcap : ¬ c' = j := by have := HCAP.out; omega
            clear pr hkind p1 p2 p3 p4 p5 hkid2
            go_wp2_with fail
            refine (write_step [32, 123, 10] hX.out.ba (by have h1 := HL.out; have h2 := HJE.out; subst h2; simp only [List.length_append, List.length_cons, List.length_nil]; omega)).mono ?_
            rintro e w4 ⟨rfl, hba4, hkp4⟩
            have hrow4 := hkp4.row HROW3.out (by decide) (by omega)
            obtain ⟨q0, q1, q2, q3, q4, q5⟩ := cells6 hrow4
            have HROW4 := Lib.hid hrow4
            have HX4 := Lib.hid (hX.out.wrote hkp4 hba4)
            have HOLD4 : Hid (Below w.heap.size w w4) := Lib.hid (HOLD3.out.trans (hkp4.old.mono (by omega)))
            clear hba4 hkp4 hrow4
            go_wp2_with fail
            clear q0 q1 q2 q3 q4 q5
            go_loopw [54] (fun t54 w5 => ∃ m : Nat, t54 = .int .i64 m ∧ Hid (m ≤ kd.kids.length - j) ∧ Hid (WrAt w1.heap.size w4 w5 (((t.kids.take k).flatMap Tr.wrD ++ kd.text ++ (kd.kids.take j).flatMap Tr.wrS ++ [32, 123, 10]) ++ ((kd.kids.drop j).take m).flatMap Tr.wrP))) (fun t54 _ => kd.kids.length + 1 - (intOf t54).toNat)
            case atStart => exact ⟨0, rfl, Lib.hid (Nat.zero_le _), Lib.hid ⟨Kp.refl _ _, by simpa using HX4.out.ba⟩⟩
            case round =>
              obtain ⟨w5, rfl⟩ : ∃ w5 : World, w5 = wr := ⟨_, rfl⟩
              obtain ⟨m, rfl, hm2, hY⟩ := hrel
              have hold5 : Below w.heap.size w w5 := HOLD4.out.trans (hY.out.kp.old.mono (by omega))
              have hdl : (kd.kids.drop j).length = kd.kids.length - j := List.length_drop
              rcases Nat.lt_or_ge m (kd.kids.length - j) with hml | hml
              · have hpl : j + m < kd.kids.length := by omega
                obtain ⟨a3, o3, c3, e3, hkid4⟩ := KRD.out.kid (j + m) hpl
                obtain rfl : a2 = a3 := by injection e3
                have hprop := (Tr.decl_kids HDECL.out (j + m) hpl).2 (by rw [← HJE.out]; omega)
                have hnp := Tr.nodes_at (d - 1) kd (j + m) hpl
                have htp := Tr.flat_take Tr.wrP (kd.kids.drop j) m (by omega)
                have hlp := Tr.flat_len Tr.wrP (kd.kids.drop j) m (by omega)
                rw [List.getElem_drop] at htp hlp
                have hkid5 := hkid4.kept (hold5.mono hl)
                generalize hkpp : kd.kids[j + m] = kp at *
                have KRP := Lib.hid hkid4.rd
                have hptx := hkid4.rd.look
                obtain ⟨_, _, _, hpkm, hptx⟩ := hptx
                unfold maxLen at hpkm
                obtain ⟨pr, ja2, p0, p1, p2, p3, p4, p5⟩ := hkid5
                rw [Nat.add_mul, ← add_add] at p0 p1 p2 p3 p4 p5
                have m0 : (0 : Int) ≤ (m : Nat) := by omega
                have m1 : ((m : Nat) : Int) < ((kd.kids.length - j : Nat) : Int) := by omega
                have hls5 : lim ≤ w5.heap.size := Nat.le_trans hl hold5.size
                have hsp := Tr.wrP_size kp
                have HLP : Hid ((((t.kids.take k).flatMap Tr.wrD ++ kd.text ++ (kd.kids.take j).flatMap Tr.wrS ++ [32, 123, 10]) ++ ((kd.kids.drop j).take m).flatMap Tr.wrP).length + (kp.text.length + ((kp.kids.flatMap Tr.wrS).length + 4)) ≤ 100001000000) := Lib.hid (by have h1 := HL.out; have h2 := HJE.out; subst h2; simp only [List.length_append, List.length_cons, List.length_nil]; omega)
                have HTP := Lib.hid htp
                have HPROP := Lib.hid hprop
                have HNP : Hid (Tr.nodes (d - 1 - 1) kp ≤ 100000) := Lib.hid (Nat.le_trans hnp HNK.out)
                have HYA := Lib.hid (hY.out.alloc (.cells #[.int .i64 kp.kind, .string ⟨kp.text.toArray⟩, .int .i64 kp.num, .int .i64 kp.dim, .int .i64 kp.pos, .slice o3 kp.kids.length c3] 26))
                have HROWP : Hid ((w5.alloc (.cells #[.int .i64 kp.kind, .string ⟨kp.text.toArray⟩, .int .i64 kp.num, .int .i64 kp.dim, .int .i64 kp.pos, .slice o3 kp.kids.length c3] 26)).heap[w5.heap.size]? = some (.cells #[.int .i64 kp.kind, .string ⟨kp.text.toArray⟩, .int .i64 kp.num, .int .i64 kp.dim, .int .i64 kp.pos, .slice o3 kp.kids.length c3] 26 (0, 0))) := Lib.hid (heap_alloc_new _ _)
                have hbw5 : w1.heap.size < w5.heap.size := hY.out.ba.lt
                have hq2 : ¬ 9223372036854775807 < 2 + kp.text.length := by omega
                have HOLD5 := Lib.hid hold5
                clear pr hprop hnp htp hlp hkid4 hsp hold5 e3
                go_wp2_with fail
                rw [cat_one [32, 32] kp.text]
                refine (write_step ([32, 32] ++ kp.text) HYA.out.ba (by have := HLP.out; simp only [List.length_append, List.length_cons, List.length_nil] at this ⊢; omega)).mono ?_
                rintro e w6 ⟨rfl, hba6, hkp6⟩
                have hrow6 := hkp6.row HROWP.out (by decide) (by omega)
                obtain ⟨q0, q1, q2, q3, q4, q5⟩ := cells6 hrow6
                have HX6 := Lib.hid (HYA.out.wrote hkp6 hba6)
                have HOLD6 : Hid (Below w.heap.size w w6) := Lib.hid (HOLD5.out.trans ((((Below.refl _ w5).alloc (Nat.le_refl _) _).mono (by have := HOLD5.out.size; omega)).trans (hkp6.old.mono (by omega))))
                clear hba6 hkp6 hrow6
                go_wp2_with fail
                clear q0 q1 q2 q3 q4 q5 p0 p1 p2 p3 p4 p5
                go_loopw [65] (fun t65 w7 => ∃ i : Nat, t65 = .int .i64 i ∧ Hid (i ≤ kp.kids.length) ∧ Hid (WrAt w1.heap.size w6 w7 (((t.kids.take k).flatMap Tr.wrD ++ kd.text ++ (kd.kids.take j).flatMap Tr.wrS ++ [32, 123, 10]) ++ ((kd.kids.drop j).take m).flatMap Tr.wrP ++ ([32, 32] ++ kp.text) ++ (kp.kids.take i).flatMap Tr.wrS))) (fun t65 _ => kp.kids.length + 1 - (intOf t65).toNat)
                case atStart => exact ⟨0, rfl, Lib.hid (Nat.zero_le _), Lib.hid ⟨Kp.refl _ _, by simpa using HX6.out.ba⟩⟩
                case round =>
                  obtain ⟨w7, rfl⟩ : ∃ w7 : World, w7 = wr := ⟨_, rfl⟩
                  obtain ⟨i, rfl, hi2, hZ⟩ := hrel
                  have hold7 : Below w.heap.size w w7 := HOLD6.out.trans (hZ.out.kp.old.mono (by omega))
                  rcases Nat.lt_or_ge i kp.kids.length with hil | hil
                  · obtain ⟨a4, o4, c4, rfl, hkid6⟩ := KRP.out.kid i hil
                    have hval := Tr.prop_kids HPROP.out i hil
                    have hnv := Tr.nodes_at (d - 1 - 1) kp i hil
                    have htv := Tr.flat_take Tr.wrS kp.kids i hil
                    have hlv := Tr.flat_len Tr.wrS kp.kids i hil
                    have hkid7 := hkid6.kept (hold7.mono hl)
                    generalize hkvv : kp.kids[i] = kv at *
                    obtain ⟨krv, va, v0, v1, v2, v3, v4, v5⟩ := hkid7
                    have n0 : (0 : Int) ≤ (i : Nat) := by omega
                    have n1 : ((i : Nat) : Int) < (kp.kids.length : Nat) := by omega
                    have hls7 : lim ≤ w7.heap.size := Nat.le_trans hl hold7.size
                    have hsv : (Tr.wrS kv).length = (Tr.wrV kv).length + 1 := by simp [Tr.wrS]
                    have HLV : Hid ((((t.kids.take k).flatMap Tr.wrD ++ kd.text ++ (kd.kids.take j).flatMap Tr.wrS ++ [32, 123, 10]) ++ ((kd.kids.drop j).take m).flatMap Tr.wrP ++ ([32, 32] ++ kp.text) ++ (kp.kids.take i).flatMap Tr.wrS).length + (Tr.wrS kv).length ≤ 100001000000) := Lib.hid (by have h1 := HLP.out; simp only [List.length_append, List.length_cons, List.length_nil] at h1 ⊢; omega)
                    have HVC := Lib.hid (writev_any (w := w7.alloc (.cells #[.int .i64 kv.kind, .string ⟨kv.text.toArray⟩, .int .i64 kv.num, .int .i64 kv.dim, .int .i64 kv.pos, .slice o4 kv.kids.length c4] 26)) hval (krv.kept ((Below.refl _ _).alloc hls7 _)) (by rw [World.size_alloc]; omega) ((HSTD.out.below hold7).below ((Below.refl _ _).alloc (Nat.le_refl _) _)) (Nat.le_trans hnv HNP.out))
                    have HTV := Lib.hid htv
                    have hq3 : ¬ 9223372036854775807 < 1 + (Tr.wrV kv).length := by have := HLV.out; omega
                    have HZA := Lib.hid (hZ.out.alloc (.cells #[.int .i64 kv.kind, .string ⟨kv.text.toArray⟩, .int .i64 kv.num, .int .i64 kv.dim, .int .i64 kv.pos, .slice o4 kv.kids.length c4] 26))
                    clear krv hval hnv htv hlv hkid6 hsv hold7
                    go_wp2_with fail
                    refine HVC.out.mono ?_
                    rintro e w8 ⟨rfl, hb8⟩
                    have HX8 := Lib.hid (HZA.out.below hb8)
                    clear hb8
                    go_wp2_with fail
                    rw [cat_one [32] (Tr.wrV kv)]
                    refine (write_step (Tr.wrS kv) HX8.out.ba (by have := HLV.out; omega)).mono ?_
                    rintro e w9 ⟨rfl, hba9, hkp9⟩
                    have HX9 := Lib.hid (HX8.out.wrote hkp9 hba9)
                    clear hba9 hkp9
                    go_wp2_with fail
                    exact ⟨⟨i + 1, by go_num, Lib.hid hil, Lib.hid (by rw [HTV.out, ← List.append_assoc]; exact HX9.out)⟩, by simp [intOf]; omega⟩
                  · have hie : i = kp.kids.length := Nat.le_antisymm hi2.out hil
                    have HIE : Hid ((kp.kids.take i).flatMap Tr.wrS = kp.kids.flatMap Tr.wrS) := Lib.hid (by rw [hie, List.take_length])
                    have n1 : ¬ ((i : Nat) : Int) < (kp.kids.length : Nat) := by omega
                    clear hie hold7
                    go_wp2_with fail
                    refine (write_step [59, 10] hZ.out.ba (by have h1 := HLP.out; have h2 := HIE.out; rw [h2]; simp only [List.length_append, List.length_cons, List.length_nil] at h1 ⊢; omega)).mono ?_
                    rintro e w8 ⟨rfl, hba8, hkp8⟩
                    have HX8 : Hid (WrAt w1.heap.size w4 w8 (((t.kids.take k).flatMap Tr.wrD ++ kd.text ++ (kd.kids.take j).flatMap Tr.wrS ++ [32, 123, 10]) ++ ((kd.kids.drop j).take (m + 1)).flatMap Tr.wrP)) := Lib.hid ⟨(HX6.out.kp.trans hZ.out.kp).trans hkp8, by
                      rw [HTP.out]
                      have h1 := hba8
                      rw [HIE.out] at h1
                      simpa [Tr.wrP, List.append_assoc] using h1⟩
                    clear hba8 hkp8
                    go_wp2_with fail
                    exact ⟨⟨m + 1, by go_num, Lib.hid hml, HX8⟩, by simp [intOf]; omega⟩
              · have hme : m = kd.kids.length - j := Nat.le_antisymm hm2.out hml
                have HME : Hid (((kd.kids.drop j).take m).flatMap Tr.wrP = (kd.kids.drop j).flatMap Tr.wrP) := Lib.hid (by rw [List.take_of_length_le (by omega)])
                have m1 : ¬ ((m : Nat) : Int) < ((kd.kids.length - j : Nat) : Int) := by omega
                clear hme hold5 hdl
                go_wp2_with fail
                refine (write_step [125, 10] hY.out.ba (by have h1 := HL.out; have h2 := HJE.out; have h3 := HME.out; subst h2; rw [h3]; simp only [List.length_append, List.length_cons, List.length_nil] at h1 ⊢; omega)).mono ?_
                rintro e w6 ⟨rfl, hba6, hkp6⟩
                have HX6 : Hid (WrAt w1.heap.size (w1.alloc (.cells #[.pointer none, .slice none 0 0] 50)) w6 ((t.kids.take (k + 1)).flatMap Tr.wrD)) := Lib.hid ⟨((HW2.out.kp.trans HX4.out.kp).trans hY.out.kp).trans hkp6, by
                  rw [HTK.out]
                  have h1 := hba6
                  have h2 := HJE.out
                  rw [HME.out] at h1
                  subst h2
                  simpa [Tr.wrD, List.append_assoc] using h1⟩
                clear hba6 hkp6
                go_wp2_with fail
                exact ⟨⟨k + 1, by go_num, Lib.hid hlt, HX6⟩, by simp [intOf]; omega⟩
          · have j1 : ¬ ((j : Nat) : Int) < (kd.kids.length : Nat) := by omega
            have j4 : (j : Int) ≤ (kd.kids.length : Nat) := by have h1 := HJE.out; have h2 := Tr.words_le kd.kids; omega
            have j0 : (0 : Int) ≤ (j : Nat) := by omega
            by_cases hcap : c' = j
            all_goals
              go_wp2_with fail
              refine (write_step [32, 123, 10] hX.out.ba (by have h1 := HL.out; have h2 := HJE.out; subst h2; simp only [List.length_append, List.length_cons, List.length_nil]; omega)).mono ?_
              rintro e w4 ⟨rfl, hba4, hkp4⟩
              have hrow4 := hkp4.row HROW3.out (by decide) (by omega)
              obtain ⟨q0, q1, q2, q3, q4, q5⟩ := cells6 hrow4
              have HROW4 := Lib.hid hrow4
              have HX4 := Lib.hid (hX.out.wrote hkp4 hba4)
              have HOLD4 : Hid (Below w.heap.size w w4) := Lib.hid (HOLD3.out.trans (hkp4.old.mono (by omega)))
              clear hba4 hkp4 hrow4
              go_wp2_with fail
              clear q0 q1 q2 q3 q4 q5
              go_loopw [54] (fun t54 w5 => t54 = .int .i64 0 ∧ Hid (WrAt w1.heap.size w4 w5 ((t.kids.take k).flatMap Tr.wrD ++ kd.text ++ (kd.kids.take j).flatMap Tr.wrS ++ [32, 123, 10]))) (fun _ _ => 0)
              case atStart => exact ⟨rfl, Lib.hid ⟨Kp.refl _ _, HX4.out.ba⟩⟩
              case round =>
                obtain ⟨w5, rfl⟩ : ∃ w5 : World, w5 = wr := ⟨_, rfl⟩
                obtain ⟨rfl, hY⟩ := hrel
                have j2 : ¬ (0 : Int) < ((kd.kids.length - j : Nat) : Int) := by omega
                have j3 : ¬ 0 < kd.kids.length - j := by omega
                have HME : Hid ((kd.kids.drop j).flatMap Tr.wrP = []) := Lib.hid (by rw [List.drop_of_length_le hjl]; rfl)
                go_wp2_with fail
                refine (write_step [125, 10] hY.out.ba (by have h1 := HL.out; have h2 := HJE.out; subst h2; simp only [List.length_append, List.length_cons, List.length_nil] at h1 ⊢; omega)).mono ?_
                rintro e w6 ⟨rfl, hba6, hkp6⟩
                have HX6 : Hid (WrAt w1.heap.size (w1.alloc (.cells #[.pointer none, .slice none 0 0] 50)) w6 ((t.kids.take (k + 1)).flatMap Tr.wrD)) := Lib.hid ⟨((HW2.out.kp.trans HX4.out.kp).trans hY.out.kp).trans hkp6, by
                  rw [HTK.out]
                  have h1 := hba6
                  have h2 := HJE.out
                  have h3 := HME.out
                  subst h2
                  simpa [Tr.wrD, h3, List.append_assoc] using h1⟩
                clear hba6 hkp6
                go_wp2_with fail
                exact ⟨⟨k + 1, by go_num, Lib.hid hlt, HX6⟩, by simp [intOf]; omega⟩
    · have hke : k = t.kids.length := Nat.le_antisymm hkl.out hge
      have i1 : ¬ ((k : Nat) : Int) < (t.kids.length : Nat) := by omega
      have HOUT : Hid (BAt w1.heap.size (Tr.wrF t) wo) := Lib.hid (by
        have h1 := hW.out.ba
        rw [hke, List.take_length] at h1
        exact h1)
      have HSC := Lib.hid (Tryz.Builder_String_any_f w1.heap.size w1.heap.size (Tr.wrF t) wo HOUT.out (Nat.le_of_lt hW.out.ba.lt))
      have HOLDE : Hid (Below w.heap.size w wo) := Lib.hid (HOLD.out.trans (hW.out.kp.old.mono (by omega)))
      clear hke
      go_wp2_with fail
      refine HSC.out.mono ?_
      rintro e w2 ⟨rfl, _, hb2⟩
      go_wp2_with fail
      go_ret
      exact ⟨rfl, HOLDE.out.trans (hb2.mono (by omega))⟩

theorem Write_any {w : World} {lim d : Nat} {v : Value} {t : Tr.Tree} (h : NodeRd w lim d v t) (hl : lim ≤ w.heap.size) (hs : Std w) (hn : Tr.nodes d t ≤ 100000) :
    Calls Tryz.prog 10 #[v] w fun e w' => e = .returned (.string ⟨(if Tr.rightB t then Tr.wrF t else []).toArray⟩) ∧ Below w.heap.size w w' := by
  cases hr : Tr.rightB t with
  | false => exact Write_bad h hl hs hr
  | true => exact Write_good h hl hs hr hn
end Go.Proofs.YtooajmbpncmgjaaGreatDoor
