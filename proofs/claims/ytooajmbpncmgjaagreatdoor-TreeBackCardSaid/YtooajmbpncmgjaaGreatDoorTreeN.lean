/- Layer 15's trees in memory. -/
import Derived.Test.YtooajmbpncmgjaaGreatDoorTreeB
namespace Go.Proofs.YtooajmbpncmgjaaGreatDoor
open Go.RowKit

theorem PAt.regs {lim : Nat} {w : World} {B : Nat} {T : List L.Tok} {k nest : Nat} (h : PAt lim w B T k nest) :
    w.cell? ⟨B, 1, none⟩ = some (.int .i64 (k : Nat)) ∧ w.cell? ⟨B, 2, none⟩ = some (.int .i64 (nest : Nat)) ∧ w.frozen? ⟨B, 1, none⟩ = false ∧ w.frozen? ⟨B, 2, none⟩ = false := by
  obtain ⟨tb, cap, hc⟩ := h.cells
  exact ⟨hc.c1, hc.c2, hc.f1, hc.f2⟩

/-- The value v is the tree t; d: a bound of its depth; its kids lie in blocks of S. -/
def NodeIn (w : World) (S : Nat → Prop) : Nat → Value → Tr.Tree → Prop
  | 0, _, _ => False
  | d + 1, v, t => ∃ (kv : Value) (vs : List Value), v = .agg #[.int .i64 t.kind, .string ⟨t.text.toArray⟩, .int .i64 t.num, .int .i64 t.dim, .int .i64 t.pos, kv] ∧
      w.ownsRow 0 26 6 kv t.kids.length (vs.flatMap fun v => v.cells.toList) ∧ vs.length = t.kids.length ∧ (∀ b, kv.ownBlock = some b → S b) ∧ ∀ p ∈ vs.zip t.kids, NodeIn w S d p.1 p.2

theorem NodeIn.kept {w w' : World} {S : Nat → Prop} {row : Option Nat} (hg : w.grownBy w' row) (hr : ∀ r, row = some r → ¬ S r) : ∀ (d : Nat) (v : Value) (t : Tr.Tree), NodeIn w S d v t → NodeIn w' S d v t
  | 0, _, _, h => h.elim
  | d + 1, v, t, ⟨kv, vs, h1, h2, h3, h4, h5⟩ => by
    refine ⟨kv, vs, h1, h2.kept hg ?_, h3, h4, fun p hp => NodeIn.kept hg hr d p.1 p.2 (h5 p hp)⟩
    cases hb : kv.ownBlock with
    | none => exact .inl rfl
    | some b => exact .inr fun e => hr b e.symm (h4 b hb)
theorem NodeIn.wide {w : World} {S S' : Nat → Prop} (hS : ∀ b, S b → S' b) : ∀ (d : Nat) (v : Value) (t : Tr.Tree), NodeIn w S d v t → NodeIn w S' d v t
  | 0, _, _, h => h.elim
  | d + 1, v, t, ⟨kv, vs, h1, h2, h3, h4, h5⟩ => ⟨kv, vs, h1, h2, h3, fun b hb => hS b (h4 b hb), fun p hp => NodeIn.wide hS d p.1 p.2 (h5 p hp)⟩
theorem NodeIn.up {w : World} {S : Nat → Prop} : ∀ (d : Nat) (v : Value) (t : Tr.Tree), NodeIn w S d v t → NodeIn w S (d + 1) v t
  | 0, _, _, h => h.elim
  | d + 1, v, t, ⟨kv, vs, h1, h2, h3, h4, h5⟩ => ⟨kv, vs, h1, h2, h3, h4, fun p hp => NodeIn.up d p.1 p.2 (h5 p hp)⟩
theorem NodeIn.le {w : World} {S : Nat → Prop} {d d' : Nat} (hd : d ≤ d') {v : Value} {t : Tr.Tree} (h : NodeIn w S d v t) : NodeIn w S d' v t := by
  induction hd with
  | refl => exact h
  | step _ ih => exact NodeIn.up _ _ _ ih
theorem NodeIn.leaf (w : World) (S : Nat → Prop) (k n d p : Int) (t : List UInt8) : NodeIn w S 1 (.agg #[.int .i64 k, .string ⟨t.toArray⟩, .int .i64 n, .int .i64 d, .int .i64 p, .slice none 0 0]) ⟨k, t, n, d, p, []⟩ :=
  ⟨_, [], rfl, World.ownsRow_nil _ _ _ _, rfl, fun b h => by simp [Value.ownBlock] at h, fun p hp => by simp at hp⟩

/-- What a function of the parser gives: a fault, or a value that is the tree, and the parser stands behind it. -/
def Gives (lim B : Nat) (T : List L.Tok) (w : World) (nest : Nat) (r : Tr.Res Tr.Tree) (e : Ending) (w' : World) : Prop :=
  match r with
  | .error f => Panics w B f e w'
  | .ok (t, ts) => ∃ k' v S d, e = .returned v ∧ PTo lim B T w w' k' nest ∧ ts = T.drop k' ∧ NodeIn w' S d v t ∧ ∀ b, S b → w.heap.size ≤ b ∧ b < w'.heap.size

theorem gives_bad {lim B : Nat} {T : List L.Tok} {w : World} {nest : Nat} {r : Tr.Res Tr.Tree} {f : Nat × Nat} (hr : r = .error f) {e : Ending} {w' : World} (h : Panics w B f e w') : Gives lim B T w nest r e w' := by subst hr; exact h
theorem gives_ok {lim B : Nat} {T : List L.Tok} {w : World} {nest : Nat} {r : Tr.Res Tr.Tree} {t : Tr.Tree} {ts : List L.Tok} (hr : r = .ok (t, ts)) {v : Value} {w' : World} {k' : Nat} (S : Nat → Prop) (d : Nat) (h : PTo lim B T w w' k' nest) (hts : ts = T.drop k') (hn : NodeIn w' S d v t) (hS : ∀ b, S b → w.heap.size ≤ b ∧ b < w'.heap.size) :
    Gives lim B T w nest r (.returned v) w' := by subst hr; exact ⟨k', v, S, d, rfl, h, hts, hn, hS⟩
theorem hd_drop (T : List L.Tok) (k : Nat) (h : k < T.length) : Tr.hd (T.drop k) = T[k] := by
  unfold Tr.hd
  rw [List.drop_eq_getElem_cons h]
  rfl
theorem tail_drop (T : List L.Tok) (k : Nat) : (T.drop k).tail = T.drop (k + 1) := by simp
end Go.Proofs.YtooajmbpncmgjaaGreatDoor
