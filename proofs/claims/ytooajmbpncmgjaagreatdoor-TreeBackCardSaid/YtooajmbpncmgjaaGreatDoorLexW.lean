/- lex.Write, by contract. -/
import Derived.Test.YtooajmbpncmgjaaGreatDoorTreeK
namespace Go.Proofs.YtooajmbpncmgjaaGreatDoor
open Go.RowKit

theorem Tryz.infoStr : (Tryz.prog.info? 9).map (fun i => (i.zero, i.size, i.bytes)) = some (some (.string ⟨#[]⟩), 1, 16) := by kernel_rfl
/-- A token as it is written. -/
def L.textW (t : L.Tok) : Option (List UInt8) :=
  if t.kind = 0 ∨ t.kind = 1 ∨ t.kind = 3 then some t.text else if t.kind = 2 then some (34 :: (t.text ++ [34])) else none
def L.textsW (l : List L.Tok) : List (List UInt8) := l.filterMap L.textW
def L.writeL (l : List L.Tok) : List UInt8 := Lib.join (L.textsW l) [32]
def strV (s : List UInt8) : Value := .string ⟨s.toArray⟩

theorem textsW_take (l : List L.Tok) (k : Nat) (h : k < l.length) : L.textsW (l.take (k + 1)) = L.textsW (l.take k) ++ (match L.textW l[k] with | some x => [x] | none => []) := by
  unfold L.textsW
  rw [List.take_succ_eq_append_getElem h, List.filterMap_append]
  simp only [List.filterMap_cons, List.filterMap_nil]
  cases L.textW l[k] <;> rfl
theorem textsW_len (l : List L.Tok) : (L.textsW l).length ≤ l.length := List.length_filterMap_le _ _
theorem textsW_small {l : List L.Tok} {n : Nat} (h : ∀ t ∈ l, t.text.length ≤ n) : ∀ x ∈ L.textsW l, x.length ≤ n + 2 := fun x hx => by
  obtain ⟨t, ht, e⟩ := List.mem_filterMap.1 hx
  have := h t ht
  unfold L.textW at e
  split at e
  · injection e with e; subst e; omega
  · split at e
    · injection e with e; subst e; simp; omega
    · cases e
theorem lens_le (n : Nat) : ∀ (l : List (List UInt8)), (∀ x ∈ l, x.length ≤ n) → Lib.lens l ≤ n * l.length
  | [], _ => by simp [Lib.lens]
  | x :: r, h => by
    have h1 := h x (by simp)
    have h2 := lens_le n r fun y hy => h y (by simp [hy])
    have : Lib.lens (x :: r) = x.length + Lib.lens r := by simp [Lib.lens]
    rw [this, List.length_cons, Nat.mul_succ]
    omega
theorem join_small (n : Nat) (sep : List UInt8) : ∀ (l : List (List UInt8)), (∀ x ∈ l, x.length ≤ n) → (Lib.join l sep).length ≤ (sep.length + n) * l.length
  | [], _ => by simp [Lib.join_nil]
  | x :: r, h => by
    have h1 := h x (by simp)
    have h2 := lens_le n r fun y hy => h y (by simp [hy])
    rw [Lib.join_cons, List.length_append, Lib.joinTail_length, List.length_cons, Nat.mul_succ, Nat.add_mul]
    omega

theorem row_form {w : World} {n0 : Nat} {l : List L.Tok} {v : Value} (h : w.ownsRow n0 41 3 v l.length (l.flatMap tokCells)) :
    ∃ o c, v = .slice o l.length c ∧ ∀ k (hk : k < l.length), ∃ tb, o = some ⟨tb, 0, none⟩ ∧ tb < w.heap.size ∧ w.cell? ⟨tb, k * 3, none⟩ = some (.int .i64 (l[k].kind : Nat)) ∧ w.cell? ⟨tb, k * 3 + 1, none⟩ = some (.string ⟨l[k].text.toArray⟩) ∧ w.cell? ⟨tb, k * 3 + 2, none⟩ = some (.int .i64 (l[k].pos : Nat)) := by
  rcases h.2 with ⟨h1, h2⟩ | ⟨g, cap, cur, h1, h2, h3, _⟩
  · exact ⟨none, 0, by rw [h1, h2], fun k hk => by omega⟩
  · subst h1
    have q : ∀ k (hk : k < l.length) i, i < 3 → w.cell? ⟨g, k * 3 + i, none⟩ = (tokCells l[k])[i]? := fun k hk i hi => by rw [h.cellAt _ (by omega), flat3 l k i hk hi]
    exact ⟨_, _, rfl, fun k hk => ⟨g, rfl, (Array.getElem?_eq_some_iff.1 h3).1, q k hk 0 (by omega), q k hk 1 (by omega), q k hk 2 (by omega)⟩⟩

theorem heap_alloc_two (w : World) (a b : Obj) : ((w.alloc a).alloc b).heap[w.heap.size + 1]? = some b := by
  have h := heap_alloc_new (w.alloc a) b
  rw [World.size_alloc] at h
  exact h
/-- Between two rounds. -/
structure TextsAt (w wr : World) (l : List L.Tok) (k : Nat) (v : Value) : Prop where
  le : k ≤ l.length
  row : wr.ownsRow w.heap.size 9 1 v (L.textsW (l.take k)).length ((L.textsW (l.take k)).map strV)
  old : Below w.heap.size w wr

theorem TextsAt.push {w wr w3 w4 : World} {l : List L.Tok} {k : Nat} {v : Value} {x : List UInt8} {g cap : Nat} (h : TextsAt w wr l k v) (hk : k < l.length) (hx : L.textW l[k] = some x) (hb : Below wr.heap.size wr w3) (hown : w4.ownsRow w.heap.size 9 1 (.slice (some ⟨g, 0, none⟩) ((L.textsW (l.take k)).length + 1) cap) ((L.textsW (l.take k)).length + 1) ((L.textsW (l.take k)).map strV ++ [strV x]))
    (hg : w3.grownBy w4 v.ownBlock) : TextsAt w w4 l (k + 1) (.slice (some ⟨g, 0, none⟩) ((L.textsW (l.take k)).length + 1) cap) := by
  have e := textsW_take l k hk
  rw [hx] at e
  have hs := h.old.size
  refine ⟨hk, ?_, (h.old.trans (hb.mono hs)).grown hg (by have := hb.size; omega) (fun r e => (h.row.lt r e).1)⟩
  rw [e, List.length_append, List.map_append]
  exact hown
theorem TextsAt.skip {w wr : World} {l : List L.Tok} {k : Nat} {v : Value} (h : TextsAt w wr l k v) (hk : k < l.length) (hx : L.textW l[k] = none) : TextsAt w wr l (k + 1) v := by
  have e := textsW_take l k hk
  rw [hx, List.append_nil] at e
  exact ⟨hk, by rw [e]; exact h.row, h.old⟩
theorem TextsAt.below {w wr w' : World} {l : List L.Tok} {k : Nat} {v : Value} (h : TextsAt w wr l k v) (hb : Below wr.heap.size wr w') : TextsAt w w' l k v :=
  ⟨h.le, h.row.kept (grown_none hb) (by cases v.ownBlock <;> simp), h.old.trans (hb.mono h.old.size)⟩

set_option maxRecDepth 100000 in
set_option maxHeartbeats 4000000 in
theorem lexwrite_any (w : World) {n0 : Nat} {l : List L.Tok} {v : Value} (h : w.ownsRow n0 41 3 v l.length (l.flatMap tokCells)) (hl : l.length ≤ 70000) (hs : ∀ t ∈ l, t.text.length ≤ 1000000) :
    Calls Tryz.prog 15 #[v] w fun e w' => e = .returned (.string ⟨(L.writeL l).toArray⟩) ∧ Below w.heap.size w w' := by
  obtain ⟨o, c, rfl, hc⟩ := row_form h
  have HC := Lib.hid hc
  have HS := Lib.hid hs
  clear h hc hs
  go_enter Tryz.func15, Tryz.ntmps15
  go_wp2_with fail
  go_loopw [3, 8] (fun t3 t8 wr => ∃ k : Nat, t8 = .int .i64 k ∧ Hid (TextsAt w wr l k t3)) (fun _ t8 _ => l.length - (intOf t8).toNat)
  case atStart => exact ⟨0, rfl, Lib.hid ⟨Nat.zero_le _, World.ownsRow_nil _ _ _ _, Below.refl _ _⟩⟩
  case round =>
    obtain ⟨k, rfl, hk⟩ := hrel
    rcases Nat.lt_or_ge k l.length with hlt | hge
    · obtain ⟨tb, rfl, htb, c0, c1, c2⟩ := HC.out k hlt
      have hsz := hk.out.old.size
      have d0 := (hk.out.old.cell (p := ⟨tb, k * 3, none⟩) htb).trans c0
      have d1 := (hk.out.old.cell (p := ⟨tb, k * 3 + 1, none⟩) htb).trans c1
      have d2 := (hk.out.old.cell (p := ⟨tb, k * 3 + 2, none⟩) htb).trans c2
      have i0 : (0 : Int) ≤ (k : Nat) := by omega
      have i1 : ((k : Nat) : Int) < (l.length : Nat) := by omega
      have hcnt : (L.textsW (l.take k)).length ≤ 70000 := by have h1 := textsW_len (l.take k); simp at h1; omega
      obtain ⟨i0', hi0, hz0, hz1', hz2'⟩ := info_parts Tryz.infoStr
      clear c0 c1 c2
      rcases Classical.em (l[k].kind = 0 ∨ l[k].kind = 1 ∨ l[k].kind = 3) with hkd | hkd
      · have HT := Lib.hid (show L.textW l[k] = some l[k].text by unfold L.textW; rw [if_pos hkd])
        rcases hkd with hkd | hkd | hkd
        · have hkd' : (l[k].kind : Int) = 0 := by omega
          clear hkd
          generalize ht : l[k] = t at *
          go_wp2_with (at_builtin; go_must (refine wpList_append_lies _ rfl _ _ 66 rfl w.heap.size 9 i0' _ 1 16 Tryz.underlying66 hi0 hz0 hz1' hz2' rfl (by omega) _ (L.textsW (l.take k)).length ((L.textsW (l.take k)).map strV) rfl ((hk.out.row.alloc _).alloc _) ⟨wr.heap.size + 1, 0, none⟩ 1 1 [strV t.text] rfl rfl (World.news_of_block (cs := #[strV t.text]) (t := 9) (fr := (0, 0)) (heap_alloc_two wr _ _)) (by intro u hu; obtain rfl : u = strV t.text := (by simpa using hu); rfl) (by omega) (by unfold maxLen; omega) (by omega) (by simp; omega) _ rfl ?_); intro g cap w4 hown hgrow hat hlt4)
          exact ⟨⟨k + 1, by go_num, Lib.hid (hk.out.push hlt (by rw [ht]; exact HT.out) (((Below.refl _ wr).alloc (Nat.le_refl _) _).alloc (by simp) _) hown hgrow)⟩, by simp [intOf]; omega⟩
        · have hkd' : (l[k].kind : Int) = 1 := by omega
          clear hkd
          generalize ht : l[k] = t at *
          go_wp2_with (at_builtin; go_must (refine wpList_append_lies _ rfl _ _ 66 rfl w.heap.size 9 i0' _ 1 16 Tryz.underlying66 hi0 hz0 hz1' hz2' rfl (by omega) _ (L.textsW (l.take k)).length ((L.textsW (l.take k)).map strV) rfl ((hk.out.row.alloc _).alloc _) ⟨wr.heap.size + 1, 0, none⟩ 1 1 [strV t.text] rfl rfl (World.news_of_block (cs := #[strV t.text]) (t := 9) (fr := (0, 0)) (heap_alloc_two wr _ _)) (by intro u hu; obtain rfl : u = strV t.text := (by simpa using hu); rfl) (by omega) (by unfold maxLen; omega) (by omega) (by simp; omega) _ rfl ?_); intro g cap w4 hown hgrow hat hlt4)
          exact ⟨⟨k + 1, by go_num, Lib.hid (hk.out.push hlt (by rw [ht]; exact HT.out) (((Below.refl _ wr).alloc (Nat.le_refl _) _).alloc (by simp) _) hown hgrow)⟩, by simp [intOf]; omega⟩
        · have hkd' : (l[k].kind : Int) = 3 := by omega
          clear hkd
          generalize ht : l[k] = t at *
          go_wp2_with (at_builtin; go_must (refine wpList_append_lies _ rfl _ _ 66 rfl w.heap.size 9 i0' _ 1 16 Tryz.underlying66 hi0 hz0 hz1' hz2' rfl (by omega) _ (L.textsW (l.take k)).length ((L.textsW (l.take k)).map strV) rfl ((hk.out.row.alloc _).alloc _) ⟨wr.heap.size + 1, 0, none⟩ 1 1 [strV t.text] rfl rfl (World.news_of_block (cs := #[strV t.text]) (t := 9) (fr := (0, 0)) (heap_alloc_two wr _ _)) (by intro u hu; obtain rfl : u = strV t.text := (by simpa using hu); rfl) (by omega) (by unfold maxLen; omega) (by omega) (by simp; omega) _ rfl ?_); intro g cap w4 hown hgrow hat hlt4)
          exact ⟨⟨k + 1, by go_num, Lib.hid (hk.out.push hlt (by rw [ht]; exact HT.out) (((Below.refl _ wr).alloc (Nat.le_refl _) _).alloc (by simp) _) hown hgrow)⟩, by simp [intOf]; omega⟩
      · by_cases hk2 : l[k].kind = 2
        · have HT := Lib.hid (show L.textW l[k] = some (34 :: (l[k].text ++ [34])) by unfold L.textW; rw [if_neg hkd, if_pos hk2])
          have hkd' : (l[k].kind : Int) = 2 := by omega
          have hsm := HS.out l[k] (List.getElem_mem _)
          have hq1 : ¬ 9223372036854775807 < 1 + l[k].text.length := by omega
          have hq2 : ¬ 9223372036854775807 < 1 + l[k].text.length + 1 := by omega
          generalize ht : l[k] = t at *
          go_wp2_with (at_builtin; go_must (refine wpList_append_lies _ rfl _ _ 66 rfl w.heap.size 9 i0' _ 1 16 Tryz.underlying66 hi0 hz0 hz1' hz2' rfl (by omega) _ (L.textsW (l.take k)).length ((L.textsW (l.take k)).map strV) rfl ((hk.out.row.alloc _).alloc _) ⟨wr.heap.size + 1, 0, none⟩ 1 1 [strV (34 :: (t.text ++ [34]))] rfl rfl (World.news_of_block (cs := #[strV (34 :: (t.text ++ [34]))]) (t := 9) (fr := (0, 0)) (heap_alloc_two wr _ _)) (by intro u hu; obtain rfl : u = strV (34 :: (t.text ++ [34])) := (by simpa using hu); rfl) (by omega) (by unfold maxLen; omega) (by omega) (by simp; omega) _ rfl ?_); intro g cap w4 hown hgrow hat hlt4)
          exact ⟨⟨k + 1, by go_num, Lib.hid (hk.out.push hlt (by rw [ht]; exact HT.out) (((Below.refl _ wr).alloc (Nat.le_refl _) _).alloc (by simp) _) hown hgrow)⟩, by simp [intOf]; omega⟩
        · have HT := Lib.hid (show L.textW l[k] = none by unfold L.textW; rw [if_neg hkd, if_neg hk2])
          have e0 : ¬ (l[k].kind : Int) = 0 := by omega
          have e1 : ¬ (l[k].kind : Int) = 1 := by omega
          have e2 : ¬ (l[k].kind : Int) = 2 := by omega
          have e3 : ¬ (l[k].kind : Int) = 3 := by omega
          generalize ht : l[k] = t at *
          go_wp2_with fail
          exact ⟨⟨k + 1, by go_num, Lib.hid ((hk.out.skip hlt (by rw [ht]; exact HT.out)).below ((Below.refl _ wr).alloc (Nat.le_refl _) _))⟩, by simp [intOf]; omega⟩
    · obtain rfl : k = l.length := Nat.le_antisymm hk.out.le hge
      have hrow := hk.out.row
      have hold := hk.out.old
      rw [List.take_length] at hrow
      have hlen := textsW_len l
      have hsm := join_small 1000002 [32] (L.textsW l) (textsW_small HS.out)
      have HSM : Hid ((Lib.join (L.textsW l) [32]).length ≤ 140737488355328) := Lib.hid (by
        refine Nat.le_trans hsm (Nat.le_trans (Nat.mul_le_mul_left _ (Nat.le_trans hlen hl)) (by decide)))
      clear hsm
      rcases hrow.2 with ⟨e1, e2⟩ | ⟨tg, tcap, cur, e1, e2, e3, e4, e5, _⟩
      · subst e1
        have HJ := Lib.hid (Tryz.strings_Join_none none 0 ⟨#[32]⟩ wr)
        have he : L.writeL l = [] := by unfold L.writeL; rw [List.length_eq_zero_iff.1 e2.symm.symm, Lib.join_nil]
        have HOLD := Lib.hid hold
        have HE := Lib.hid he
        clear hold he hrow e2
        go_wp2_with fail
        refine HJ.out.mono ?_
        rintro e w5 ⟨rfl, rfl⟩
        go_wp2_with fail
        go_ret
        exact ⟨by rw [HE.out]; rfl, HOLD.out⟩
      · subst e1
        have hce : ∀ (j : Nat) x, ((L.textsW l).map fun t => (⟨t.toArray⟩ : ByteArray))[j]? = some x → wr.cell? ⟨tg, 0 + j, none⟩ = some (.string x) := fun j x hx => by
          rw [Nat.zero_add]
          have hj : j < (L.textsW l).length := by have := (List.getElem?_eq_some_iff.1 hx).1; simpa using this
          rw [hrow.cellAt j (by omega)]
          simp [strV] at hx ⊢
          obtain ⟨y, hy, rfl⟩ := hx
          exact ⟨y, hy, rfl⟩
        have hmm : ((L.textsW l).map fun t => (⟨t.toArray⟩ : ByteArray)).map (·.data.toList) = L.textsW l := by rw [List.map_map]; simp [Function.comp_def]
        have HJ := Tryz.strings_Join tg 0 tcap ((L.textsW l).map fun t => (⟨t.toArray⟩ : ByteArray)) ⟨#[32]⟩ wr hce (Array.getElem?_eq_some_iff.1 e3).1 (by simp; omega) (by simpa using e4) (by rw [hmm]; exact HSM.out)
        rw [hmm, List.length_map] at HJ
        have HJ2 := Lib.hid HJ
        have HOLD := Lib.hid hold
        clear hold hrow e4 e5 HJ hce
        go_wp2_with fail
        refine HJ2.out.mono ?_
        rintro e w5 ⟨rfl, hb5⟩
        go_wp2_with fail
        go_ret
        exact ⟨rfl, HOLD.out.trans (hb5.mono HOLD.out.size)⟩
end Go.Proofs.YtooajmbpncmgjaaGreatDoor
