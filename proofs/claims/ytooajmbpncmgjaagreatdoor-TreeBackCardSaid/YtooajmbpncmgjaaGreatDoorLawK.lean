/- Layer 15's law TreeBack: trees as they come in, size, by contract. -/
import Derived.Test.YtooajmbpncmgjaaGreatDoorLawF
import Derived.Test.YtooajmbpncmgjaaGreatDoorRound
import Derived.ProofKit
import Derived.OpenShut
import Derived.Lib.SmallJoins
namespace Go.Proofs.YtooajmbpncmgjaaGreatDoor
open Go.RowKit

/-- The value v is the tree t, whatever its texts; d: a bound of its depth; its kids lie below block lim. -/
def NodeRaw (w : World) (lim : Nat) : Nat → Value → Tr.Tree → Prop
  | 0, _, _ => False
  | d + 1, v, t => ∃ (o : Option Addr) (c : Nat) (vs : List Value), v = .agg #[.int .i64 t.kind, .string ⟨t.text.toArray⟩, .int .i64 t.num, .int .i64 t.dim, .int .i64 t.pos, .slice o t.kids.length c] ∧ vs.length = t.kids.length ∧ (t.kids.length ≤ maxLen ∧ t.kids.length ≤ c) ∧
      t.text.length ≤ maxLen ∧ (∀ i (h : i < vs.length), ∃ a, o = some a ∧ a.block < lim ∧ ∀ j, j < 6 → w.cell? (a.add (i * 6 + j)) = vs[i].cells[j]?) ∧ ∀ p ∈ vs.zip t.kids, NodeRaw w lim d p.1 p.2
theorem NodeRaw.kept {w w' : World} {lim : Nat} (hb : Below lim w w') : ∀ (d : Nat) (v : Value) (t : Tr.Tree), NodeRaw w lim d v t → NodeRaw w' lim d v t
  | 0, _, _, h => h.elim
  | d + 1, v, t, ⟨o, c, vs, h1, h2, h3, h4, h5, h6⟩ => ⟨o, c, vs, h1, h2, h3, h4, fun i hi => by
      obtain ⟨a, ha, hl, hc⟩ := h5 i hi
      exact ⟨a, ha, hl, fun j hj => (hb.cell (p := a.add (i * 6 + j)) (by rw [add_block]; exact hl)).trans (hc j hj)⟩, fun p hp => NodeRaw.kept hb d p.1 p.2 (h6 p hp)⟩
theorem NodeRaw.look {w : World} {lim d : Nat} {v : Value} {t : Tr.Tree} (h : NodeRaw w lim d v t) : ∃ (o : Option Addr) (c : Nat), v = .agg #[.int .i64 t.kind, .string ⟨t.text.toArray⟩, .int .i64 t.num, .int .i64 t.dim, .int .i64 t.pos, .slice o t.kids.length c] ∧ t.kids.length ≤ maxLen ∧ t.text.length ≤ maxLen := by
  cases d with
  | zero => exact h.elim
  | succ d =>
    obtain ⟨o, c, vs, h1, h2, h3, h4, _⟩ := h
    exact ⟨o, c, h1, h3.1, h4⟩
structure KidRaw (w : World) (a : Addr) (k lim d : Nat) (o' : Option Addr) (c' : Nat) (t : Tr.Tree) : Prop where
  rd : NodeRaw w lim (d - 1) (.agg #[.int .i64 t.kind, .string ⟨t.text.toArray⟩, .int .i64 t.num, .int .i64 t.dim, .int .i64 t.pos, .slice o' t.kids.length c']) t
  lt : a.block < lim
  c0 : w.cell? (a.add (k * 6)) = some (.int .i64 t.kind)
  c1 : w.cell? ⟨(a.add (k * 6)).block, (a.add (k * 6)).off + 1, none⟩ = some (.string ⟨t.text.toArray⟩)
  c2 : w.cell? ⟨(a.add (k * 6)).block, (a.add (k * 6)).off + 2, none⟩ = some (.int .i64 t.num)
  c3 : w.cell? ⟨(a.add (k * 6)).block, (a.add (k * 6)).off + 3, none⟩ = some (.int .i64 t.dim)
  c4 : w.cell? ⟨(a.add (k * 6)).block, (a.add (k * 6)).off + 4, none⟩ = some (.int .i64 t.pos)
  c5 : w.cell? ⟨(a.add (k * 6)).block, (a.add (k * 6)).off + 5, none⟩ = some (.slice o' t.kids.length c')
theorem NodeRaw.kid {w : World} {lim d c : Nat} {o : Option Addr} {t : Tr.Tree} (h : NodeRaw w lim d (.agg #[.int .i64 t.kind, .string ⟨t.text.toArray⟩, .int .i64 t.num, .int .i64 t.dim, .int .i64 t.pos, .slice o t.kids.length c]) t) (k : Nat) (hk : k < t.kids.length) : ∃ a o' c', o = some a ∧ KidRaw w a k lim d o' c' t.kids[k] := by
  cases d with
  | zero => exact h.elim
  | succ d =>
    obtain ⟨o1, c1, vs, h1, h2, h3, h4, h5, h6⟩ := h
    obtain rfl : o = o1 := by simp at h1; exact h1.1
    obtain ⟨a, ha, hl, hc⟩ := h5 k (by omega)
    have hm : (vs[k], t.kids[k]) ∈ vs.zip t.kids := by
      rw [List.mem_iff_getElem]
      exact ⟨k, by simp; omega, by simp⟩
    have hn := h6 _ hm
    have hn' := hn
    obtain ⟨o', c', vs', e, _⟩ : ∃ (o : Option Addr) (c : Nat) (vs' : List Value), vs[k] = .agg #[.int .i64 t.kids[k].kind, .string ⟨t.kids[k].text.toArray⟩, .int .i64 t.kids[k].num, .int .i64 t.kids[k].dim, .int .i64 t.kids[k].pos, .slice o t.kids[k].kids.length c] ∧ True := by
      cases d with
      | zero => exact hn'.elim
      | succ d => obtain ⟨o, c, vs', h1, _⟩ := hn'; exact ⟨o, c, vs', h1, trivial⟩
    rw [e] at hc
    dsimp only at hn
    rw [e] at hn
    have q : ∀ j, j + 1 < 6 → w.cell? ⟨(a.add (k * 6)).block, (a.add (k * 6)).off + (j + 1), none⟩ = (Value.agg #[.int .i64 t.kids[k].kind, .string ⟨t.kids[k].text.toArray⟩, .int .i64 t.kids[k].num, .int .i64 t.kids[k].dim, .int .i64 t.kids[k].pos, .slice o' t.kids[k].kids.length c']).cells[j + 1]? := fun j hj => by
      rw [← hc (j + 1) hj, ← add_add]
      rfl
    exact ⟨a, o', c', ha, hn, hl, hc 0 (by omega), q 0 (by omega), q 1 (by omega), q 2 (by omega), q 3 (by omega), q 4 (by omega)⟩

namespace Tr
mutual
/-- The number of nodes, up to a limit. -/
def sizeT : Tree → Nat → Nat
  | ⟨_, x, _, _, _, l⟩, n => if 60 < n ∨ 300 < l.length ∨ 600 < x.length then 301 else sizeL l (n + 1) 1
def sizeL : List Tree → Nat → Nat → Nat
  | [], _, s => s
  | t :: r, n, s => if 300 < s then s else sizeL r n (s + sizeT t n)
end
theorem sizeT_eq (t : Tree) (n : Nat) : sizeT t n = if 60 < n ∨ 300 < t.kids.length ∨ 600 < t.text.length then 301 else sizeL t.kids (n + 1) 1 := by cases t; rw [sizeT]
theorem sizeL_ge : ∀ (l : List Tree) (n s : Nat), s ≤ sizeL l n s
  | [], n, s => by rw [sizeL]; exact Nat.le_refl _
  | t :: r, n, s => by
    rw [sizeL]
    split
    · exact Nat.le_refl _
    · have := sizeL_ge r n (s + sizeT t n); omega
theorem sizeL_le (n m : Nat) : ∀ (l : List Tree) (s : Nat), (∀ t ∈ l, sizeT t n ≤ m) → s ≤ 300 + m → sizeL l n s ≤ 300 + m
  | [], s, _, hs => by rw [sizeL]; exact hs
  | t :: r, s, h, hs => by
    rw [sizeL]
    split
    · exact hs
    · have := h t (by simp)
      exact sizeL_le n m r _ (fun x hx => h x (by simp [hx])) (by omega)
/-- A tree that is small: its texts and kids are, and there are few nodes. -/
theorem sizeL_small : ∀ (l : List Tree) (n s : Nat), sizeL l n s ≤ 300 → (∀ t ∈ l, sizeT t n ≤ 300) ∧ sizeL l n s = s + (l.map fun t => sizeT t n).sum
  | [], n, s, _ => by rw [sizeL]; simp
  | t :: r, n, s, h => by
    have h0 := sizeL_ge (t :: r) n s
    rw [sizeL] at h h0 ⊢
    split at h
    · omega
    · rename_i hs
      rw [if_neg hs] at h0 ⊢
      obtain ⟨h1, h2⟩ := sizeL_small r n _ h
      have h3 := sizeL_ge r n (s + sizeT t n)
      refine ⟨fun x hx => ?_, by rw [h2]; simp; omega⟩
      rcases List.mem_cons.1 hx with rfl | hx
      · omega
      · exact h1 x hx
theorem size_nodes : ∀ (d : Nat) (t : Tree) (n : Nat), sizeT t n ≤ 300 → nodes d t ≤ sizeT t n
  | 0, t, n, h => by
    rw [sizeT_eq] at h ⊢
    split at h
    · omega
    · rename_i hc
      rw [if_neg hc]
      exact sizeL_ge t.kids (n + 1) 1
  | d + 1, t, n, h => by
    rw [sizeT_eq] at h ⊢
    split at h
    · omega
    · rename_i hc
      rw [if_neg hc]
      obtain ⟨h1, h2⟩ := sizeL_small t.kids (n + 1) 1 h
      rw [h2, nodes]
      have q : ∀ l : List Tree, (∀ k ∈ l, sizeT k (n + 1) ≤ 300) → (l.map (nodes d)).sum ≤ (l.map fun k => sizeT k (n + 1)).sum := fun l => by
        induction l with
        | nil => intro _; simp
        | cons x r ih =>
          intro hx
          have := ih fun k hk => hx k (by simp [hk])
          have := size_nodes d x (n + 1) (hx x (by simp))
          simp; omega
      have := q t.kids h1
      omega
theorem sizeT_bound : ∀ (m : Nat) (d : Nat) (t : Tree) (n : Nat), Deep d t → 61 ≤ n + m → sizeT t n ≤ 301 + 300 * m
  | _, 0, t, n, h, _ => h.elim
  | 0, d + 1, t, n, _, hn => by rw [sizeT_eq, if_pos (.inl (by omega))]; omega
  | m + 1, d + 1, t, n, h, hn => by
    rw [sizeT_eq]
    split
    · omega
    · have := sizeL_le (n + 1) (301 + 300 * m) t.kids 1 (fun k hk => sizeT_bound m d k (n + 1) (h k hk) (by omega)) (by omega)
      omega
end Tr
theorem NodeRaw.deep {w : World} {lim : Nat} : ∀ (d : Nat) (v : Value) (t : Tr.Tree), NodeRaw w lim d v t → Tr.Deep d t
  | 0, _, _, h => h.elim
  | d + 1, v, t, ⟨o, c, vs, h1, h2, h3, h4, h5, h6⟩ => fun k hk => by
      obtain ⟨i, hi, rfl⟩ := List.getElem_of_mem hk
      have hm : (vs[i]'(by omega), t.kids[i]) ∈ vs.zip t.kids := by
        rw [List.mem_iff_getElem]
        exact ⟨i, by simp; omega, by simp⟩
      exact NodeRaw.deep d _ _ (h6 _ hm)
/-- A small tree's texts are short. -/
theorem NodeRaw.rd {w : World} {lim : Nat} : ∀ (d : Nat) (v : Value) (t : Tr.Tree) (n : Nat), NodeRaw w lim d v t → Tr.sizeT t n ≤ 300 → NodeRd w lim d v t
  | 0, _, _, _, h, _ => h.elim
  | d + 1, v, t, n, ⟨o, c, vs, h1, h2, h3, h4, h5, h6⟩, hs => by
    rw [Tr.sizeT_eq] at hs
    split at hs
    · omega
    · rename_i hc
      obtain ⟨g1, _⟩ := Tr.sizeL_small t.kids (n + 1) 1 hs
      exact ⟨o, c, vs, h1, h2, h3, by omega, h5, fun p hp => NodeRaw.rd d p.1 p.2 (n + 1) (h6 p hp) (g1 _ (List.of_mem_zip hp).2)⟩

theorem nret_int {a b : Nat} (h : a = b) : Ending.returned (.int .i64 (b : Nat)) = .returned (.int .i64 (a : Nat)) := by rw [h]
theorem sizeL_take (l : List Tr.Tree) (n s k : Nat) (hk : k < l.length) : Tr.sizeL (l.drop k) n s = if 300 < s then s else Tr.sizeL (l.drop (k + 1)) n (s + Tr.sizeT l[k] n) := by
  rw [List.drop_eq_getElem_cons hk, Tr.sizeL]

set_option maxRecDepth 100000 in
set_option maxHeartbeats 4000000 in
theorem size_step {w : World} {lim d nest : Nat} {v : Value} {t : Tr.Tree} (ih : ∀ (w : World) (v : Value) (k : Tr.Tree), NodeRaw w lim (d - 1) v k → lim ≤ w.heap.size → Calls Tryz.prog 9 #[v, .int .i64 ((nest : Nat) + 1)] w fun e w' => e = .returned (.int .i64 (Tr.sizeT k (nest + 1) : Nat)) ∧ Below w.heap.size w w')
    (h : NodeRaw w lim d v t) (hl : lim ≤ w.heap.size) (hn : nest ≤ 60) (hk : t.kids.length ≤ 300) (hx : t.text.length ≤ 600) :
    Calls Tryz.prog 9 #[v, .int .i64 (nest : Nat)] w fun e w' => e = .returned (.int .i64 (Tr.sizeL t.kids (nest + 1) 1 : Nat)) ∧ Below w.heap.size w w' := by
  have hbd : ∀ k ∈ t.kids, Tr.sizeT k (nest + 1) ≤ 18301 := fun k hk => by
    cases d with
    | zero => exact h.elim
    | succ d => exact Nat.le_trans (Tr.sizeT_bound 60 d k (nest + 1) (NodeRaw.deep _ _ _ h k hk) (by omega)) (by decide)
  obtain ⟨o, c, rfl, hm, htx⟩ := h.look
  have H := Lib.hid h
  have IH := Lib.hid ih
  have HBD := Lib.hid hbd
  have HBX := Lib.hid (Boxed.start w (.cells #[.int .i64 t.kind, .string ⟨t.text.toArray⟩, .int .i64 t.num, .int .i64 t.dim, .int .i64 t.pos, .slice o t.kids.length c] 26))
  have f1 : ¬ (60 : Int) < (nest : Nat) := by omega
  have f2 : ¬ (300 : Int) < (t.kids.length : Nat) := by omega
  have f3 : ¬ (600 : Int) < (t.text.length : Nat) := by omega
  clear h ih hbd
  go_enter Tryz.func9, Tryz.ntmps9
  go_wp2_with fail
  go_loopw [5, 6] (fun t5 t6 wr => ∃ (k s : Nat), t6 = .int .i64 k ∧ t5 = .int .i64 s ∧ Hid (k ≤ t.kids.length ∧ s ≤ 20000) ∧ Hid (Tr.sizeL (t.kids.drop k) (nest + 1) s = Tr.sizeL t.kids (nest + 1) 1) ∧ Hid (Boxed w wr (.cells #[.int .i64 t.kind, .string ⟨t.text.toArray⟩, .int .i64 t.num, .int .i64 t.dim, .int .i64 t.pos, .slice o t.kids.length c] 26))) (fun _ t6 _ => t.kids.length - (intOf t6).toNat)
  case atStart => exact ⟨0, 1, rfl, rfl, Lib.hid ⟨Nat.zero_le _, by decide⟩, Lib.hid rfl, HBX⟩
  case round =>
    obtain ⟨wo, rfl⟩ : ∃ wo : World, wo = wr := ⟨_, rfl⟩
    obtain ⟨k, s, rfl, rfl, hks, hsz, hbx⟩ := hrel
    have hsb := hks.out.2
    obtain ⟨q0, q1, q2, q3, q4, q5⟩ := cells6 hbx.out.row
    rcases Nat.lt_or_ge k t.kids.length with hlt | hge
    · have hst := sizeL_take t.kids (nest + 1) s k hlt
      have i0 : (0 : Int) ≤ (k : Nat) := by omega
      have i1 : ((k : Nat) : Int) < (t.kids.length : Nat) := by omega
      rcases Nat.lt_or_ge 300 s with hs | hs
      · rw [if_pos hs, hsz.out] at hst
        have HST := Lib.hid hst
        have j1 : ¬ ((s : Nat) : Int) ≤ 300 := by omega
        clear hst
        go_wp2_with fail
        go_ret
        exact ⟨nret_int (by rw [HST.out]), hbx.out.all⟩
      · rw [if_neg (by omega : ¬ 300 < s), hsz.out] at hst
        have hold := hbx.out.all
        obtain ⟨a, o', c', rfl, hkid⟩ := (NodeRaw.kept (hold.mono hl) _ _ _ H.out).kid k hlt
        have hb := HBD.out _ (List.getElem_mem hlt)
        generalize hkd : t.kids[k] = kd at *
        obtain ⟨krd, ka, k0, k1, k2, k3, k4, k5⟩ := hkid
        have j1 : ((s : Nat) : Int) ≤ 300 := by omega
        have hls : lim ≤ wo.heap.size := Nat.le_trans hl hold.size
        have HC := Lib.hid (IH.out wo _ kd krd hls)
        have HST := Lib.hid hst
        have HB := Lib.hid hb
        have hb2 : ((Tr.sizeT kd (nest + 1) : Nat) : Int) ≤ 18301 := by omega
        clear krd hst hold hb
        go_wp2_with fail
        refine HC.out.mono ?_
        rintro e w2 ⟨rfl, hb2⟩
        have HBX2 := Lib.hid (hbx.out.below hb2)
        clear hb2
        go_wp2_with fail
        exact ⟨⟨k + 1, s + Tr.sizeT kd (nest + 1), by go_num, by go_num, Lib.hid ⟨hlt, by have := HB.out; omega⟩, Lib.hid HST.out.symm, HBX2⟩, by simp [intOf]; omega⟩
    · have hke : k = t.kids.length := Nat.le_antisymm hks.out.1 hge
      have hss : Tr.sizeL t.kids (nest + 1) 1 = s := by
        have h1 := hsz.out
        rw [hke, List.drop_length, Tr.sizeL] at h1
        exact h1.symm
      have HSS := Lib.hid hss
      have i1 : ¬ ((k : Nat) : Int) < (t.kids.length : Nat) := by omega
      clear hke hss
      go_wp2_with fail
      go_ret
      exact ⟨nret_int (by rw [HSS.out]), hbx.out.all⟩

set_option maxRecDepth 100000 in
set_option maxHeartbeats 4000000 in
theorem size_over {w : World} {lim d nest : Nat} {v : Value} {t : Tr.Tree} (h : NodeRaw w lim d v t) (hc : 60 < nest ∨ 300 < t.kids.length ∨ 600 < t.text.length) :
    Calls Tryz.prog 9 #[v, .int .i64 (nest : Nat)] w fun e w' => e = .returned (.int .i64 301) ∧ Below w.heap.size w w' := by
  obtain ⟨o, c, rfl, hm, htx⟩ := h.look
  clear h
  by_cases h1 : 60 < nest
  · have f1 : (60 : Int) < (nest : Nat) := by omega
    clear hc
    go_enter Tryz.func9, Tryz.ntmps9
    go_wp2_with fail
    go_ret
    exact ⟨rfl, (Below.refl _ _).alloc (Nat.le_refl _) _⟩
  · have f1 : ¬ (60 : Int) < (nest : Nat) := by omega
    by_cases h2 : 300 < t.kids.length
    · have f2 : (300 : Int) < (t.kids.length : Nat) := by omega
      clear hc
      go_enter Tryz.func9, Tryz.ntmps9
      go_wp2_with fail
      go_ret
      exact ⟨rfl, (Below.refl _ _).alloc (Nat.le_refl _) _⟩
    · have f2 : ¬ (300 : Int) < (t.kids.length : Nat) := by omega
      have f3 : (600 : Int) < (t.text.length : Nat) := by omega
      clear hc
      go_enter Tryz.func9, Tryz.ntmps9
      go_wp2_with fail
      go_ret
      exact ⟨rfl, (Below.refl _ _).alloc (Nat.le_refl _) _⟩
theorem size_any : ∀ (d nest : Nat) (w : World) (lim : Nat) (v : Value) (t : Tr.Tree), NodeRaw w lim d v t → lim ≤ w.heap.size →
    Calls Tryz.prog 9 #[v, .int .i64 (nest : Nat)] w fun e w' => e = .returned (.int .i64 (Tr.sizeT t nest : Nat)) ∧ Below w.heap.size w w'
  | 0, _, w, lim, v, t, h, _ => h.elim
  | d + 1, nest, w, lim, v, t, h, hl => by
    rw [Tr.sizeT_eq]
    by_cases hc : 60 < nest ∨ 300 < t.kids.length ∨ 600 < t.text.length
    · rw [if_pos hc]
      exact size_over h hc
    · rw [if_neg hc]
      exact size_step (fun w v k hr hl => size_any d (nest + 1) w lim v k hr hl) h hl (by omega) (by omega) (by omega)

namespace Tr
mutual
theorem wrV_bare : ∀ t : Tree, wrV (bare t) = wrV t
  | ⟨k, x, n, d, p, l⟩ => by rw [bare, wrV, wrV, wrG_bare l]
theorem wrG_bare : ∀ l : List Tree, wrG (bareL l) = wrG l
  | [] => by rw [bareL]
  | t :: r => by rw [bareL, wrG, wrG, wrV_bare t, wrT_bare r]
theorem wrT_bare : ∀ l : List Tree, wrT (bareL l) = wrT l
  | [] => by rw [bareL]
  | t :: r => by rw [bareL, wrT, wrT, wrV_bare t, wrT_bare r]
end
theorem flatS_bare (l : List Tree) : (bareL l).flatMap wrS = l.flatMap wrS := by
  rw [bareL_map, List.flatMap_map]
  congr 1
  funext t
  unfold wrS
  rw [wrV_bare]
theorem wrP_bare (t : Tree) : wrP (bare t) = wrP t := by
  rw [bare_eq]
  unfold wrP
  rw [flatS_bare]
theorem words_bare : ∀ l : List Tree, words (bareL l) = words l
  | [] => by rw [bareL]
  | t :: r => by
    have ih := words_bare r
    unfold words at ih ⊢
    rw [bareL, List.takeWhile_cons, List.takeWhile_cons, show (bare t).kind = t.kind by rw [bare_eq]]
    split
    · simp [ih]
    · rfl
theorem wrD_bare (t : Tree) : wrD (bare t) = wrD t := by
  rw [bare_eq]
  unfold wrD
  dsimp only
  rw [words_bare]
  have h1 : (bareL t.kids).take (words t.kids) = bareL (t.kids.take (words t.kids)) := by rw [bareL_map, bareL_map, List.map_take]
  have h2 : (bareL t.kids).drop (words t.kids) = bareL (t.kids.drop (words t.kids)) := by rw [bareL_map, bareL_map, List.map_drop]
  rw [h1, h2, flatS_bare]
  have h3 : ∀ l : List Tree, (bareL l).flatMap wrP = l.flatMap wrP := fun l => by
    rw [bareL_map, List.flatMap_map]
    congr 1
    funext t
    exact wrP_bare t
  rw [h3]
theorem wrF_bare (t : Tree) : wrF (bare t) = wrF t := by
  rw [bare_eq]
  unfold wrF
  dsimp only
  rw [bareL_map, List.flatMap_map]
  congr 1
  funext t
  exact wrD_bare t
theorem wrF_same {t u : Tree} (h : bare t = bare u) : wrF t = wrF u := by rw [← wrF_bare t, h, wrF_bare u]
end Tr
theorem parseS_long {s : List UInt8} (h : 65536 < s.length) : parseS s = (Tr.zero, 8, 0) := by
  have hs : scanR s = ([], 8, 0) := by unfold scanR; rw [if_pos h]
  rw [parseS_bad (by rw [hs]; decide), hs]
/-! ### The law -/
set_option maxRecDepth 100000 in
set_option maxHeartbeats 4000000 in
theorem back_large {w : World} {d : Nat} {v : Value} {t : Tr.Tree} (h : NodeRaw w w.heap.size d v t) (hw : Std w) (hs : 300 < Tr.sizeT t 0) :
    Calls Tryz.prog 3 #[v] w fun e w' => e = .returned (.bool true) ∧ Below w.heap.size w w' := by
  obtain ⟨o, c, rfl, hm, htx⟩ := h.look
  have SM := Lib.hid small_any
  have H := Lib.hid h
  have HW := Lib.hid hw
  have hs2 : (300 : Int) < (Tr.sizeT t 0 : Nat) := by omega
  clear h hw hs
  go_enter Tryz.func3, Tryz.ntmps3
  go_wp2_with fail
  refine (SM.out _ (HW.out.below ((Below.refl _ _).alloc (Nat.le_refl _) _))).mono ?_
  rintro e w1 ⟨rfl, hb1⟩
  have HX1 := Lib.hid (Boxed.of hb1)
  obtain ⟨q0, q1, q2, q3, q4, q5⟩ := cells6 HX1.out.row
  have SZ := Lib.hid (size_any d 0 w1 w.heap.size _ t (NodeRaw.kept HX1.out.all _ _ _ H.out) (Nat.le_of_lt HX1.out.size))
  clear hb1
  go_wp2_with fail
  refine SZ.out.mono ?_
  rintro e w2 ⟨rfl, hb2⟩
  have HX2 := Lib.hid (HX1.out.below hb2)
  clear hb2 q0 q1 q2 q3 q4 q5
  obtain ⟨q0, q1, q2, q3, q4, q5⟩ := cells6 HX2.out.row
  go_wp2_with fail
  go_ret
  exact ⟨rfl, HX2.out.all⟩
set_option maxRecDepth 100000 in
set_option maxHeartbeats 4000000 in
theorem back_wrong {w : World} {d : Nat} {v : Value} {t : Tr.Tree} (h : NodeRaw w w.heap.size d v t) (hw : Std w) (hs : Tr.sizeT t 0 ≤ 300) (hr : Tr.rightB t = false) :
    Calls Tryz.prog 3 #[v] w fun e w' => e = .returned (.bool true) ∧ Below w.heap.size w w' := by
  obtain ⟨o, c, rfl, hm, htx⟩ := h.look
  have SM := Lib.hid small_any
  have H := Lib.hid h
  have HW := Lib.hid hw
  have HSM := Lib.hid hs
  have HN := Lib.hid (NodeRaw.rd d _ t 0 H.out HSM.out)
  have hnd := Nat.le_trans (Tr.size_nodes d t 0 HSM.out) HSM.out
  have WC := Lib.hid fun (W : World) (hW : Below w.heap.size w W) => Write_any (w := W) (lim := w.heap.size) (HN.out.kept hW) hW.size (HW.out.below hW) (by omega)
  have RC := Lib.hid fun (W : World) (hW : Below w.heap.size w W) => right_any (w := W) (lim := w.heap.size) (HN.out.kept hW) hW.size (HW.out.below hW)
  rw [hr] at WC RC
  have hs2 : ¬ (300 : Int) < (Tr.sizeT t 0 : Nat) := by have := HSM.out; omega
  clear h hw hr hs hnd
  rw [if_neg (by simp)] at WC
  go_enter Tryz.func3, Tryz.ntmps3
  go_wp2_with fail
  refine (SM.out _ (HW.out.below ((Below.refl _ _).alloc (Nat.le_refl _) _))).mono ?_
  rintro e w1 ⟨rfl, hb1⟩
  have HX1 := Lib.hid (Boxed.of hb1)
  obtain ⟨q0, q1, q2, q3, q4, q5⟩ := cells6 HX1.out.row
  have SZ := Lib.hid (size_any d 0 w1 w.heap.size _ t (NodeRaw.kept HX1.out.all _ _ _ H.out) (Nat.le_of_lt HX1.out.size))
  clear hb1
  go_wp2_with fail
  refine SZ.out.mono ?_
  rintro e w2 ⟨rfl, hb2⟩
  have HX2 := Lib.hid (HX1.out.below hb2)
  clear hb2 q0 q1 q2 q3 q4 q5
  obtain ⟨q0, q1, q2, q3, q4, q5⟩ := cells6 HX2.out.row
  go_wp2_with fail
  refine (WC.out w2 HX2.out.all).mono ?_
  rintro e w3 ⟨rfl, hb3⟩
  have HX3 := Lib.hid (HX2.out.below hb3)
  clear hb3 q0 q1 q2 q3 q4 q5
  obtain ⟨q0, q1, q2, q3, q4, q5⟩ := cells6 HX3.out.row
  go_wp2_with fail
  refine (RC.out w3 HX3.out.all).mono ?_
  rintro e w4 ⟨rfl, hb4⟩
  have HX4 := Lib.hid (HX3.out.below hb4)
  clear hb4 q0 q1 q2 q3 q4 q5
  obtain ⟨q0, q1, q2, q3, q4, q5⟩ := cells6 HX4.out.row
  go_wp2_with fail
  go_ret
  exact ⟨rfl, HX4.out.all⟩
set_option maxRecDepth 100000 in
set_option maxHeartbeats 4000000 in
theorem back_long {w : World} {d : Nat} {v : Value} {t : Tr.Tree} (h : NodeRaw w w.heap.size d v t) (hw : Std w) (hs : Tr.sizeT t 0 ≤ 300) (hr : Tr.rightB t = true) (hl : 65536 < (Tr.wrF t).length) (hlm : (Tr.wrF t).length ≤ maxLen) :
    Calls Tryz.prog 3 #[v] w fun e w' => e = .returned (.bool true) ∧ Below w.heap.size w w' := by
  obtain ⟨o, c, rfl, hm, htx⟩ := h.look
  have SM := Lib.hid small_any
  have H := Lib.hid h
  have HW := Lib.hid hw
  have HSM := Lib.hid hs
  have PC := Lib.hid (pcz_of (s := ⟨(Tr.wrF t).toArray⟩) (parseS_long hl) (by rw [L.ba_size]; exact hlm))
  have hl2 : (65536 : Int) < ((Tr.wrF t).length : Nat) := by omega
  unfold maxLen at hlm
  have HN := Lib.hid (NodeRaw.rd d _ t 0 H.out HSM.out)
  have hnd := Nat.le_trans (Tr.size_nodes d t 0 HSM.out) HSM.out
  have WC := Lib.hid fun (W : World) (hW : Below w.heap.size w W) => Write_any (w := W) (lim := w.heap.size) (HN.out.kept hW) hW.size (HW.out.below hW) (by omega)
  have RC := Lib.hid fun (W : World) (hW : Below w.heap.size w W) => right_any (w := W) (lim := w.heap.size) (HN.out.kept hW) hW.size (HW.out.below hW)
  rw [hr] at WC RC
  have hs2 : ¬ (300 : Int) < (Tr.sizeT t 0 : Nat) := by have := HSM.out; omega
  clear h hw hr hs hnd
  rw [if_pos rfl] at WC
  go_enter Tryz.func3, Tryz.ntmps3
  go_wp2_with fail
  refine (SM.out _ (HW.out.below ((Below.refl _ _).alloc (Nat.le_refl _) _))).mono ?_
  rintro e w1 ⟨rfl, hb1⟩
  have HX1 := Lib.hid (Boxed.of hb1)
  obtain ⟨q0, q1, q2, q3, q4, q5⟩ := cells6 HX1.out.row
  have SZ := Lib.hid (size_any d 0 w1 w.heap.size _ t (NodeRaw.kept HX1.out.all _ _ _ H.out) (Nat.le_of_lt HX1.out.size))
  clear hb1
  go_wp2_with fail
  refine SZ.out.mono ?_
  rintro e w2 ⟨rfl, hb2⟩
  have HX2 := Lib.hid (HX1.out.below hb2)
  clear hb2 q0 q1 q2 q3 q4 q5
  obtain ⟨q0, q1, q2, q3, q4, q5⟩ := cells6 HX2.out.row
  go_wp2_with fail
  refine (WC.out w2 HX2.out.all).mono ?_
  rintro e w3 ⟨rfl, hb3⟩
  have HX3 := Lib.hid (HX2.out.below hb3)
  clear hb3 q0 q1 q2 q3 q4 q5
  obtain ⟨q0, q1, q2, q3, q4, q5⟩ := cells6 HX3.out.row
  go_wp2_with fail
  refine (RC.out w3 HX3.out.all).mono ?_
  rintro e w4 ⟨rfl, hb4⟩
  have HX4 := Lib.hid (HX3.out.below hb4)
  clear hb4 q0 q1 q2 q3 q4 q5
  obtain ⟨q0, q1, q2, q3, q4, q5⟩ := cells6 HX4.out.row
  go_wp2_with fail
  refine (PC.out w4 (HW.out.below HX4.out.all)).mono ?_
  rintro e w5 ⟨o5, c5, d5, rfl, _, hb5⟩
  have HX5 := Lib.hid (HX4.out.below hb5)
  clear hb5 q0 q1 q2 q3 q4 q5
  go_wp2_with fail
  go_ret
  exact ⟨rfl, bl_trans HX5.out.all ((Below.refl _ _).alloc (Nat.le_refl _) _)⟩
set_option maxRecDepth 100000 in
set_option maxHeartbeats 4000000 in
theorem back_good {w : World} {d : Nat} {v : Value} {t u : Tr.Tree} (h : NodeRaw w w.heap.size d v t) (hw : Std w) (hs : Tr.sizeT t 0 ≤ 300) (hr : Tr.rightB t = true) (hl : (Tr.wrF t).length ≤ 65536) (hp : parseS (Tr.wrF t) = (u, 0, 0)) (hsame : Tr.sameB t u = true) (hru : Tr.rightB u = true) (hwu : Tr.wrF u = Tr.wrF t) (hnu : ∀ d, Tr.nodes d u ≤ 100000) :
    Calls Tryz.prog 3 #[v] w fun e w' => e = .returned (.bool true) ∧ Below w.heap.size w w' := by
  obtain ⟨o, c, rfl, hm, htx⟩ := h.look
  have SM := Lib.hid small_any
  have H := Lib.hid h
  have HW := Lib.hid hw
  have HSM := Lib.hid hs
  have PC := Lib.hid (pcs_of (s := ⟨(Tr.wrF t).toArray⟩) hp (by rw [L.ba_size]; unfold maxLen; omega))
  have hl2 : ¬ (65536 : Int) < ((Tr.wrF t).length : Nat) := by omega
  have HSAME := Lib.hid hsame
  have HRU := Lib.hid hru
  have HWU := Lib.hid hwu
  have HNU := Lib.hid hnu
  clear hp hsame hru hwu hnu
  have HN := Lib.hid (NodeRaw.rd d _ t 0 H.out HSM.out)
  have hnd := Nat.le_trans (Tr.size_nodes d t 0 HSM.out) HSM.out
  have WC := Lib.hid fun (W : World) (hW : Below w.heap.size w W) => Write_any (w := W) (lim := w.heap.size) (HN.out.kept hW) hW.size (HW.out.below hW) (by omega)
  have RC := Lib.hid fun (W : World) (hW : Below w.heap.size w W) => right_any (w := W) (lim := w.heap.size) (HN.out.kept hW) hW.size (HW.out.below hW)
  rw [hr] at WC RC
  have hs2 : ¬ (300 : Int) < (Tr.sizeT t 0 : Nat) := by have := HSM.out; omega
  clear h hw hr hs hnd
  rw [if_pos rfl] at WC
  go_enter Tryz.func3, Tryz.ntmps3
  go_wp2_with fail
  refine (SM.out _ (HW.out.below ((Below.refl _ _).alloc (Nat.le_refl _) _))).mono ?_
  rintro e w1 ⟨rfl, hb1⟩
  have HX1 := Lib.hid (Boxed.of hb1)
  obtain ⟨q0, q1, q2, q3, q4, q5⟩ := cells6 HX1.out.row
  have SZ := Lib.hid (size_any d 0 w1 w.heap.size _ t (NodeRaw.kept HX1.out.all _ _ _ H.out) (Nat.le_of_lt HX1.out.size))
  clear hb1
  go_wp2_with fail
  refine SZ.out.mono ?_
  rintro e w2 ⟨rfl, hb2⟩
  have HX2 := Lib.hid (HX1.out.below hb2)
  clear hb2 q0 q1 q2 q3 q4 q5
  obtain ⟨q0, q1, q2, q3, q4, q5⟩ := cells6 HX2.out.row
  go_wp2_with fail
  refine (WC.out w2 HX2.out.all).mono ?_
  rintro e w3 ⟨rfl, hb3⟩
  have HX3 := Lib.hid (HX2.out.below hb3)
  clear hb3 q0 q1 q2 q3 q4 q5
  obtain ⟨q0, q1, q2, q3, q4, q5⟩ := cells6 HX3.out.row
  go_wp2_with fail
  refine (RC.out w3 HX3.out.all).mono ?_
  rintro e w4 ⟨rfl, hb4⟩
  have HX4 := Lib.hid (HX3.out.below hb4)
  clear hb4 q0 q1 q2 q3 q4 q5
  obtain ⟨q0, q1, q2, q3, q4, q5⟩ := cells6 HX4.out.row
  go_wp2_with fail
  refine (PC.out w4 (HW.out.below HX4.out.all)).mono ?_
  rintro e w5 ⟨o5, c5, d5, rfl, hr5, hb5⟩
  have HX5 := Lib.hid (HX4.out.below hb5)
  have HR5 := Lib.hid hr5
  clear hb5 hr5 q0 q1 q2 q3 q4 q5
  have z5 : w.heap.size < w5.heap.size := HX5.out.size
  have z5' : ¬ w.heap.size = w5.heap.size := by omega
  obtain ⟨q0, q1, q2, q3, q4, q5⟩ := cells6 HX5.out.row
  have SA := Lib.hid fun (W : World) (hW : Below w5.heap.size w5 W) => same_any d d5 W w5.heap.size _ _ t u (NodeRd.wide (Nat.le_of_lt z5) _ _ _ (HN.out.kept (HX5.out.all.trans (hW.mono (Nat.le_of_lt z5))))) (HR5.out.kept hW) hW.size
  rw [HSAME.out] at SA
  have WU := Lib.hid fun (W : World) (hW : Below w5.heap.size w5 W) => Write_any (w := W) (lim := w5.heap.size) (HR5.out.kept hW) hW.size (HW.out.below (bl_trans HX5.out.all hW)) (HNU.out _)
  rw [if_pos HRU.out, HWU.out] at WU
  have bb : ((ByteArray.mk (Tr.wrF t).toArray).toList == (ByteArray.mk (Tr.wrF t).toArray).toList) = true := by simp
  have bb2 : (Tr.wrF t == Tr.wrF t) = true := by simp
  go_wp2_with fail
  refine (SA.out _ ((Below.refl _ _).alloc (Nat.le_refl _) _)).mono ?_
  rintro e w6 ⟨rfl, hb6⟩
  have hx6 := Boxed.of hb6
  have hk6 := bl_trans ((Below.refl w5.heap.size w5).alloc (Nat.le_refl _) (.cells #[.int .i64 u.kind, .string ⟨u.text.toArray⟩, .int .i64 u.num, .int .i64 u.dim, .int .i64 u.pos, .slice o5 u.kids.length c5] 26)) hb6
  have HK6 := Lib.hid hk6
  clear q0 q1 q2 q3 q4 q5
  obtain ⟨r0, r1, r2, r3, r4, r5⟩ := cells6 hx6.row
  clear hx6 hk6 hb6
  go_wp2_with fail
  refine (WU.out _ HK6.out).mono ?_
  rintro e w7 ⟨rfl, hb7⟩
  have HK7 := Lib.hid (bl_trans HX5.out.all (bl_trans HK6.out hb7))
  clear hb7
  go_wp2_with fail
  go_ret
  exact ⟨rfl, HK7.out⟩

theorem back_any {w : World} {d : Nat} {v : Value} {t : Tr.Tree} (h : NodeRaw w w.heap.size d v t) (hw : Std w) :
    Calls Tryz.prog 3 #[v] w fun e w' => e = .returned (.bool true) ∧ Below w.heap.size w w' := by
  rcases Nat.lt_or_ge 300 (Tr.sizeT t 0) with hs | hs
  · exact back_large h hw hs
  · cases hr : Tr.rightB t with
    | false => exact back_wrong h hw hs hr
    | true =>
      have hn := NodeRaw.rd d v t 0 h hs
      have hlen := Nat.le_trans (Tr.wrF_len d t (NodeRd.deep _ _ _ hn) (NodeRd.short _ _ _ hn)) (Nat.mul_le_mul_left 1000010 (Nat.le_trans (Tr.size_nodes d t 0 hs) hs))
      rcases Nat.lt_or_ge 65536 (Tr.wrF t).length with hl | hl
      · exact back_long h hw hs hr hl (by unfold maxLen; omega)
      · obtain ⟨h1, h2⟩ := write_parse hr hl
        obtain ⟨_, l, r, he, _⟩ := parseS_yes h1
        have hp : parseS (Tr.wrF t) = ((parseS (Tr.wrF t)).1, 0, 0) := Prod.ext rfl (Prod.ext h1 (by rw [he]))
        exact back_good h hw hs hr hl hp ((Tr.sameB_bare _ _).2 h2.symm) (parseS_right h1).1 (Tr.wrF_same h2) fun d => Nat.le_trans ((parseS_sizes (Tr.wrF t)).2 d) (by decide)

/-! ### The argument -/
theorem NodeRaw.le {w : World} {lim : Nat} : ∀ (d d' : Nat) (v : Value) (t : Tr.Tree), d ≤ d' → NodeRaw w lim d v t → NodeRaw w lim d' v t
  | 0, _, _, _, _, h => h.elim
  | _ + 1, 0, _, _, hd, _ => by omega
  | d + 1, d' + 1, v, t, hd, ⟨o, c, vs, h1, h2, h3, h4, h5, h6⟩ => ⟨o, c, vs, h1, h2, h3, h4, h5, fun p hp => NodeRaw.le d d' p.1 p.2 (by omega) (h6 p hp)⟩
theorem pick_lists {α β : Type} {R : Nat → α → β → Prop} : ∀ (n : Nat), (∀ i, i < n → ∃ a b, R i a b) → ∃ (l : List α) (m : List β), l.length = n ∧ m.length = n ∧ ∀ i (h1 : i < l.length) (h2 : i < m.length), R i l[i] m[i]
  | 0, _ => ⟨[], [], rfl, rfl, fun i h => absurd h (Nat.not_lt_zero i)⟩
  | n + 1, h => by
    obtain ⟨l, m, h1, h2, h3⟩ := pick_lists n fun i hi => h i (by omega)
    obtain ⟨a, b, hab⟩ := h n (by omega)
    refine ⟨l ++ [a], m ++ [b], by simp [h1], by simp [h2], fun i g1 g2 => ?_⟩
    rw [List.length_append, h1] at g1
    rcases Nat.lt_or_ge i n with hlt | hge
    · rw [List.getElem_append_left (by omega), List.getElem_append_left (by omega)]
      exact h3 i _ _
    · have : i = n := by simp at g1; omega
      subst this
      rw [List.getElem_append_right (by omega), List.getElem_append_right (by omega)]
      simpa [h1, h2] using hab
theorem list5 {α : Type} {l : List α} (h : l.length = 5) : ∃ a b c d e, l = [a, b, c, d, e] := by
  match l, h with
  | [a, b, c, d, e], _ => exact ⟨a, b, c, d, e, rfl⟩
theorem list6 {α : Type} {l : List α} (h : l.length = 6) : ∃ a b c d e f, l = [a, b, c, d, e, f] := by
  match l, h with
  | [a, b, c, d, e, f], _ => exact ⟨a, b, c, d, e, f, rfl⟩
theorem list2 {α : Type} {l : List α} (h : l.length = 2) : ∃ a b, l = [a, b] := by
  match l, h with
  | [a, b], _ => exact ⟨a, b, rfl⟩
theorem cell_lt2 {w : World} {a : Addr} {v : Value} (h : w.cell? a = some v) : a.block < w.heap.size := by
  rcases Nat.lt_or_ge a.block w.heap.size with hlt | hge
  · exact hlt
  · unfold World.cell? at h
    rw [Array.getElem?_eq_none hge] at h
    cases h
theorem cellsNode : Tryz.prog.cellsOf 26 = 6 := by kernel_rfl
theorem cellsInt : Tryz.prog.cellsOf 3 = 1 := by kernel_rfl
theorem cellsStr : Tryz.prog.cellsOf 9 = 1 := by kernel_rfl
theorem cellsAmt : Tryz.prog.cellsOf 23 = 2 := by kernel_rfl
theorem cellsKids : Tryz.prog.cellsOf 24 = 1 := by kernel_rfl
theorem trod_node {H : Type} {enc : TypeId × Value → H} {w : World} {sp : Nat → Bool} {held : Bool} : ∀ (m fuel : Nat) (cs : List Value) (x : DataW H × List MemPlace), fuel ≤ m → DataW.trod enc Tryz.prog w 0 sp held fuel 26 cs = some x → ∃ t, NodeRaw w w.heap.size (m + 1) (.agg cs.toArray) t
  | m, fuel, cs, x, hm, h => by
    obtain ⟨xs, n, rfl, _, hl, hlen, hf⟩ := DataW.trod_struct Tryz.underlying26 h
    obtain ⟨c0, c1, c2, c3, c4, c5, rfl⟩ := list6 (hl.trans cellsNode)
    obtain ⟨x0, x1, x2, x3, x4, rfl⟩ := list5 (show xs.length = 5 from hlen)
    have h0 : DataW.trod enc Tryz.prog w 0 sp held n 3 (([c0, c1, c2, c3, c4, c5].drop 0).take (Tryz.prog.cellsOf 3)) = some x0 := hf 0 _ rfl
    have h1 : DataW.trod enc Tryz.prog w 0 sp held n 9 (([c0, c1, c2, c3, c4, c5].drop 1).take (Tryz.prog.cellsOf 9)) = some x1 := hf 1 _ rfl
    have h2 : DataW.trod enc Tryz.prog w 0 sp held n 23 (([c0, c1, c2, c3, c4, c5].drop 2).take (Tryz.prog.cellsOf 23)) = some x2 := hf 2 _ rfl
    have h3 : DataW.trod enc Tryz.prog w 0 sp held n 3 (([c0, c1, c2, c3, c4, c5].drop 4).take (Tryz.prog.cellsOf 3)) = some x3 := hf 3 _ rfl
    have h4 : DataW.trod enc Tryz.prog w 0 sp held n 24 (([c0, c1, c2, c3, c4, c5].drop 5).take (Tryz.prog.cellsOf 24)) = some x4 := hf 4 _ rfl
    rw [cellsInt] at h0 h3
    rw [cellsStr] at h1
    rw [cellsAmt] at h2
    rw [cellsKids] at h4
    obtain ⟨kd, e0, _, _⟩ := DataW.trod_int Tryz.underlying3 h0
    obtain ⟨s, e1, _, hs⟩ := DataW.trod_string Tryz.underlying9 h1
    obtain ⟨ys, n2, _, _, _, hlen2, hf2⟩ := DataW.trod_struct Tryz.underlying23 h2
    obtain ⟨y0, y1, rfl⟩ := list2 (show ys.length = 2 from hlen2)
    have g0 : DataW.trod enc Tryz.prog w 0 sp held n2 3 (((([c0, c1, c2, c3, c4, c5].drop 2).take 2).drop 0).take (Tryz.prog.cellsOf 3)) = some y0 := hf2 0 _ rfl
    have g1 : DataW.trod enc Tryz.prog w 0 sp held n2 3 (((([c0, c1, c2, c3, c4, c5].drop 2).take 2).drop 1).take (Tryz.prog.cellsOf 3)) = some y1 := hf2 1 _ rfl
    rw [cellsInt] at g0 g1
    obtain ⟨nn, e2, _, _⟩ := DataW.trod_int Tryz.underlying3 g0
    obtain ⟨dd, e3, _, _⟩ := DataW.trod_int Tryz.underlying3 g1
    obtain ⟨pp, e4, _, _⟩ := DataW.trod_int Tryz.underlying3 h3
    obtain rfl : c0 = .int .i64 kd := (List.cons.inj e0).1
    obtain rfl : c1 = .string s := (List.cons.inj e1).1
    obtain rfl : c2 = .int .i64 nn := (List.cons.inj e2).1
    obtain rfl : c3 = .int .i64 dd := (List.cons.inj e3).1
    obtain rfl : c4 = .int .i64 pp := (List.cons.inj e4).1
    have hsl : s.data.toList.length ≤ maxLen := hs
    have hst : (⟨s.data.toList.toArray⟩ : ByteArray) = s := L.ba_ext (by simp)
    rcases DataW.trod_slice Tryz.underlying24 h4 with ⟨e5, _⟩ | ⟨a, len, cap, elems, rest, n3, rfl, e5, _, _, hlc, hcm, hel, hget, _, _⟩
    · obtain rfl : c5 = .slice none 0 0 := (List.cons.inj e5).1
      exact ⟨⟨kd, s.data.toList, nn, dd, pp, []⟩, none, 0, [], by rw [hst]; rfl, rfl, ⟨Nat.zero_le _, Nat.le_refl _⟩, hsl, fun i hi => absurd hi (Nat.not_lt_zero i), fun p hp => by cases hp⟩
    · obtain rfl : c5 = .slice (some a) len cap := (List.cons.inj e5).1
      rw [cellsNode] at hget
      have hkid : ∀ i, i < len → ∃ (v : Value) (t : Tr.Tree), (a.block < w.heap.size ∧ ∀ j, j < 6 → w.cell? (a.add (i * 6 + j)) = v.cells[j]?) ∧ NodeRaw w w.heap.size m v t := fun i hi => by
        have hg := hget i hi
        rw [List.getElem?_eq_getElem (by omega : i < elems.length)] at hg
        obtain ⟨zs, hz, ht⟩ := Option.bind_eq_some_iff.1 hg
        match m, hm with
        | 0, hm => omega
        | m + 1, hm =>
          obtain ⟨t, htr⟩ := trod_node m n3 zs _ (by omega) ht
          unfold World.cells? at hz
          rw [if_pos (Nat.zero_le _)] at hz
          have hzl := mapM_some_length hz
          have hc : ∀ j, j < 6 → w.cell? (a.add (i * 6 + j)) = zs[j]? := fun j hj => by
            have := mapM_some_get hz j j (by simp [hj])
            rwa [add_add] at this
          refine ⟨.agg zs.toArray, t, ⟨?_, fun j hj => by rw [hc j hj]; simp [Value.cells]⟩, htr⟩
          have h00 := hc 0 (by omega)
          rw [List.getElem?_eq_getElem (by rw [hzl]; simp)] at h00
          have := cell_lt2 h00
          rwa [add_block] at this
      obtain ⟨vs, ts, l1, l2, hR⟩ := pick_lists len hkid
      refine ⟨⟨kd, s.data.toList, nn, dd, pp, ts⟩, some a, cap, vs, by rw [hst]; dsimp only; rw [l2], by rw [l1, l2], ⟨by dsimp only; omega, by dsimp only; omega⟩, hsl, fun i hi => ⟨a, rfl, (hR i hi (by omega)).1.1, (hR i hi (by omega)).1.2⟩, fun p hp => ?_⟩
      obtain ⟨i, hi, rfl⟩ := List.getElem_of_mem hp
      rw [List.length_zip] at hi
      rw [List.getElem_zip]
      exact (hR i (by omega) (by dsimp only at hi; omega)).2
end Go.Proofs.YtooajmbpncmgjaaGreatDoor
