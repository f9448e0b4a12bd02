/- A range over an iterator that keeps its state in a cell of its own (strings.SplitSeq): the iterator's contract names that cell; the caller's invariant abides a store into it. -/
import Derived.RangeFuncNested
import Derived.RangeFuncBound
import Derived.RangeFuncCalls
import Derived.RangeFuncLeaves
namespace Go.Proofs.YtooajmbpncmgjaaGreatDoor
open Go.RowKit

/-- The iterator's contract: c is the cell that it writes between two rounds; a round that goes on keeps what lies below n₀. -/
def SeqStopsC {α : Type} (F : Fence) (n : Nat) (P : Program) (g : Nat) (lb : Array Value) (encs : α → Array Value) (c : Addr) (n₀ : Nat) (S Sp : List α → Prop) (N : Nat) (w : World) : Prop :=
  ∀ (l : Nat) (J Jx : List α → World → Prop) (W : World), Below n₀ w W → (∀ s A v, J s A → J s (A.setCell c v)) →
    (∀ pre x W1, J pre W1 → pre.length < N → YieldAt F (n - 1) P l (encs x) W1 fun e W' =>
      (e = .returned (.bool true) ∧ J (pre ++ [x]) W' ∧ Below n₀ W1 W') ∨ (e = .returned (.bool false) ∧ Jx (pre ++ [x]) W')) →
    J [] W →
    CallsIn F n P g (#[.func (.yield l) #[] #[]] ++ lb) W fun e W' => (∃ v, e = .returned v) ∧ ((∃ xs, S xs ∧ J xs W') ∨ (∃ pre, Sp pre ∧ Jx pre W'))

/-- How a round's body may be left. -/
def cellPost {α : Type} (n₀ : Nat) (I : List α → World → Prop) (Ix : Code → List α → World → Prop) (xs : List α) (W : World) : Exit → Act → World → Prop
  | .normal, _, W' => KeepsOthers W W' ∧ Below n₀ W W' ∧ I xs W'
  | .ret, _, W' => KeepsOthers W W' ∧ Ix .ret xs W'
  | _, _, _ => False

theorem wpIn_rangeFunc_cell {F : Fence} {n : Nat} {P : Program} {α : Type} {g : Operand} {ps : Array Tmp} {assign body : Code} {Q : Exit → Act → World → Prop} {a : Act} {w : World}
    (hro : F.round = none) (h1 : 1 ≤ n) {gf : Nat} {lb : Array Value} (hg : a.eval g = .func (.func gf) #[] lb) (hFg : F.fn gf) (eg : ∀ args w, (callFunc gf args).run P w = .ok (.enter gf args) w)
    {encs : α → Array Value} {c : Addr} {S Sp : List α → Prop} {N : Nat} (hseq : SeqStopsC F (n - 1) P gf lb encs c w.heap.size S Sp N w) (hps : ∀ x, (encs x).size = ps.size)
    (I : List α → World → Prop) (Ix : Code → List α → World → Prop) (hI : OwnFrom w.heap.size I) (hIx : ∀ c, OwnFrom w.heap.size (Ix c)) (hIc : ∀ s A v, I s A → I s (A.setCell c v)) (h0 : I [] w) (a₁ : α → Act)
    (hassign : ∀ (l : Nat) (x : α) (W : World) (K : Act → World → Prop), K (a₁ x) W →
      assign.wpIn (F.inRound l) (n - 1 - 1) P (Exit.then K (fun _ _ _ => False)) { tmps := (ps.zip (encs x)).foldl (fun t (p, v) => t.setIfInBounds p v) a.tmps, defers := [] } W)
    (hbody : ∀ (l : Nat) (pre : List α) (x : α) (W : World), I pre W → pre.length < N → body.wpIn (F.inRound l) (n - 1 - 1) P (cellPost w.heap.size I Ix (pre ++ [x]) W) (a₁ x) W)
    (hdone : ∀ (D : Nat) (xs : List α) (W : World), w.heap.size ≤ D → S xs → I xs W → W.heap[D]? = some (.deferred (some [])) → Q .normal { a with defers := { target := .collected D, args := #[] } :: a.defers } W)
    (hstop : ∀ (D : Nat) (pre : List α) (W : World), w.heap.size ≤ D → Sp pre → Ix .ret pre W → W.heap[D]? = some (.deferred (some [])) → Code.ret.wpIn F n P Q { a with defers := { target := .collected D, args := #[] } :: a.defers } W) :
    (Code.rangeFunc g ps assign body).wpIn F n P Q a w := by
  refine wpIn_rangeFunc fun fn hfn => ?_
  rw [hro]
  -- the loop's record, in its states
  let st : LoopState → Option Code → Obj := fun s p => .loop { state := s, pending := p, fn, tmps := a.tmps, params := ps, assign, body, defers := w.heap.size }
  let dk : Obj := .deferred (some [])
  let W1 := (w.alloc dk).alloc (st .ready none)
  have sL : W1.heap[w.heap.size + 1]? = some (st .ready none) := by
    have := World.alloc_heap_new (w.alloc dk) (st .ready none); rwa [World.size_alloc] at this
  have sD : W1.heap[w.heap.size]? = some dk := (Below.heap_alloc _ _ _ (by simp)).trans (World.alloc_heap_new w _)
  have bW : Below w.heap.size w W1 := ((Below.refl _ w).alloc (Nat.le_refl _) _).alloc (by simp) _
  have iW : I [] W1 := hI.alloc _ (hI.alloc _ h0)
  have put_below : ∀ (A : World) (l : Nat) (o o' : Obj), w.heap.size ≤ l → A.heap[l]? = some o → Below w.heap.size A (A.putObj l o') := fun A l o o' hl h =>
    (Below.refl _ A).grown (grownBy_putObj' A l o') (by have := (Array.getElem?_eq_some_iff.1 h).1; omega) (fun k e => by cases e; omega)
  have same_after : ∀ {A B : World} {l : Nat} {o : Obj}, KeepsOthers A B → A.heap[l]? = some o → o.isCells = false → B.heap[l]? = some o := fun hk h ho => hk.same _ _ h ho
  refine ⟨w.heap.size + 1, [{ target := .collected w.heap.size, args := #[] }], W1, { target := .fn (.func gf) lb, args := #[.func (.yield (w.heap.size + 1)) #[] #[]] }, W1, gf,
    #[.func (.yield (w.heap.size + 1)) #[] #[]] ++ lb, W1, run_enterLoop_outer _ _ _ _ _, ?_, ?_, ?_, fun _ => h1, ?_⟩
  · simp only [resolve, hg]
    simp [go_sem]
  · intro f' hf'; simp [Target.leads] at hf'; subst hf'; exact hFg
  · simp [invoke, go_sem, eg]
  refine (hseq (w.heap.size + 1)
    (fun pre W => I pre W ∧ W.heap[w.heap.size + 1]? = some (st .ready none) ∧ W.heap[w.heap.size]? = some dk)
    (fun pre W => Ix .ret pre W ∧ W.heap[w.heap.size + 1]? = some (st .done (some .ret)) ∧ W.heap[w.heap.size]? = some dk)
    W1 bW (fun s A v h => ⟨hIc s A v h.1, same_after (KeepsOthers.setCell A c v) h.2.1 rfl, same_after (KeepsOthers.setCell A c v) h.2.2 rfl⟩) ?_ ⟨iW, sL, sD⟩).mono ?_
  · rintro pre x W ⟨hi, hl, hk⟩ hlen
    have hy := run_yield (P := P) (args := encs x) hl (hps x)
    refine ⟨fn, _, assign, body, hy, roundIn_of_wpIn hfn (hassign _ x W _ ⟨_, run_beginRound hl rfl, ?_⟩)⟩
    have hl2 : (W.putObj (w.heap.size + 1) (st .busy none)).heap[w.heap.size + 1]? = some (st .busy none) := World.putObj_heap_same (Array.getElem?_eq_some_iff.1 hl).1
    have hk2 : (W.putObj (w.heap.size + 1) (st .busy none)).heap[w.heap.size]? = some dk := (World.putObj_heap_other (by omega)).trans hk
    have hb2 := put_below W (w.heap.size + 1) _ (st .busy none) (by omega) hl
    refine wpIn_mono (hbody _ pre x _ (hI.putObj _ hi (by omega) hl rfl) hlen) ?_
    rintro e a3 W3 hp
    cases e with
    | normal =>
      obtain ⟨k3, b3, i3⟩ := hp
      have l3 := same_after k3 hl2 rfl
      exact ⟨_, _, run_endRound none l3, .inl ⟨rfl, ⟨hI.putObj _ i3 (by omega) l3 rfl, World.putObj_heap_same (Array.getElem?_eq_some_iff.1 l3).1, (World.putObj_heap_other (by omega)).trans (same_after k3 hk2 rfl)⟩,
        (hb2.trans b3).trans (put_below W3 _ _ _ (by omega) l3)⟩⟩
    | ret =>
      obtain ⟨k3, i3⟩ := hp
      have l3 := same_after k3 hl2 rfl
      exact ⟨_, _, run_endRound (some .ret) l3, .inr ⟨rfl, (hIx _).putObj _ i3 (by omega) l3 rfl, World.putObj_heap_same (Array.getElem?_eq_some_iff.1 l3).1, (World.putObj_heap_other (by omega)).trans (same_after k3 hk2 rfl)⟩⟩
    | exit id => exact hp.elim
    | goto t => exact hp.elim
    | panic ch => exact hp.elim
    | outgrown => exact hp.elim
  · rintro e W2 ⟨⟨v, rfl⟩, (⟨xs, hS, hi, hl, hk⟩ | ⟨pre, hSp, hi, hl, hk⟩)⟩
    · exact ⟨none, _, run_endLoop (P := P) hl (by simp), hdone _ xs _ (Nat.le_refl _) hS (hI.putObj _ hi (by omega) hl rfl) ((World.putObj_heap_other (by omega)).trans hk)⟩
    · exact ⟨some .ret, _, run_endLoop (P := P) hl (by simp), hstop _ pre _ (Nat.le_refl _) hSp ((hIx _).putObj _ hi (by omega) hl rfl) ((World.putObj_heap_other (by omega)).trans hk)⟩
end Go.Proofs.YtooajmbpncmgjaaGreatDoor
