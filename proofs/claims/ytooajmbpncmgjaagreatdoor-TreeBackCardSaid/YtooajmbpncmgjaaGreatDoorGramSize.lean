/- Layer 15's grammar: the sizes of what the parser returns. -/
import Derived.Test.YtooajmbpncmgjaaGreatDoorWriteMath
import Derived.Test.YtooajmbpncmgjaaGreatDoorFailsMath
namespace Go.Proofs.YtooajmbpncmgjaaGreatDoor
open L (Tok)
namespace Tr
theorem unit_len2 (r : List Tok) : (unitP r).2.length ≤ r.length := unit_len r
theorem G.short {n : NT} {ts r : List Tok} {l : List Tree} (h : G n ts l r) : (∀ t ∈ ts, t.text.length ≤ 1000000) → ∀ v ∈ l, ∀ d, Short d v := by
  induction h with
  | word f t r h =>
    intro ht v hv d
    simp at hv
    subst hv
    cases d with
    | zero => trivial
    | succ d => exact ⟨ht t (by simp), fun k hk => by simp at hk⟩
  | text f t r h =>
    intro ht v hv d
    simp at hv
    subst hv
    cases d with
    | zero => trivial
    | succ d => exact ⟨ht t (by simp), fun k hk => by simp at hk⟩
  | amount f t r n d h =>
    intro ht v hv d
    simp at hv
    subst hv
    cases d with
    | zero => trivial
    | succ d => exact ⟨Nat.zero_le _, fun k hk => by simp at hk⟩
  | group f t c r r' l h hl hc ih =>
    intro ht v hv d
    simp at hv
    subst hv
    cases d with
    | zero => trivial
    | succ d => exact ⟨Nat.zero_le _, fun k hk => ih (fun t h => ht t (by simp [h])) k hk d⟩
  | one f ts r v h ih => exact ih
  | comma f ts r r' c v l h hc hl ih1 ih2 =>
    intro ht u hu d
    rcases List.mem_cons.1 hu with rfl | hu
    · exact ih1 ht _ (by simp) d
    · exact ih2 (fun t hx => ht t (h.suffix.subset (by simp [hx]))) u hu d
  | vnil ts => intro _ v hv; cases hv
  | vcons ts r r' v l h hl ih1 ih2 =>
    intro ht u hu d
    rcases List.mem_cons.1 hu with rfl | hu
    · exact ih1 ht _ (by simp) d
    · exact ih2 (fun t hx => ht t (h.suffix.subset hx)) u hu d
  | prop t c r r' l h hl hc ih =>
    intro ht v hv d
    simp at hv
    subst hv
    cases d with
    | zero => trivial
    | succ d => exact ⟨ht t (by simp), fun k hk => ih (fun t h => ht t (by simp [h])) k hk d⟩
  | pnil ts => intro _ v hv; cases hv
  | pcons ts r r' v l h hl ih1 ih2 =>
    intro ht u hu d
    rcases List.mem_cons.1 hu with rfl | hu
    · exact ih1 ht _ (by simp) d
    · exact ih2 (fun t hx => ht t (h.suffix.subset hx)) u hu d
  | wnil ts => intro _ v hv; cases hv
  | wcons t r r' k l h hl ih =>
    intro ht u hu d
    rcases List.mem_cons.1 hu with rfl | hu
    · cases d with
      | zero => trivial
      | succ d => exact ⟨ht t (by simp), fun k hk => by simp at hk⟩
    · exact ih (fun t hx => ht t (by simp [hx])) u hu d
  | decl t c e r r1 r2 l1 l2 h hw hc hp he ih1 ih2 =>
    intro ht v hv d
    simp at hv
    subst hv
    cases d with
    | zero => trivial
    | succ d =>
      refine ⟨ht t (by simp), fun k hk => ?_⟩
      rcases List.mem_append.1 hk with hk | hk
      · exact ih1 (fun t h => ht t (by simp [h])) k hk d
      · exact ih2 (fun x hx => ht x (List.mem_cons_of_mem _ (hw.suffix.subset (List.mem_cons_of_mem _ hx)))) k hk d
  | fnil ts => intro _ v hv; cases hv
  | fcons ts r r' v l h hl ih1 ih2 =>
    intro ht u hu d
    rcases List.mem_cons.1 hu with rfl | hu
    · exact ih1 ht _ (by simp) d
    · exact ih2 (fun t hx => ht t (h.suffix.subset hx)) u hu d
theorem nodes_leaf (k : Int) (x : List UInt8) (n d : Int) (p : Int) (e : Nat) : nodes e ⟨k, x, n, d, p, []⟩ = 1 := by cases e <;> simp [nodes]
theorem nodes_le (k : Int) (x : List UInt8) (n d : Int) (p : Int) (l : List Tree) (m : Nat) (h : ∀ e, (l.map (nodes e)).sum ≤ m) (e : Nat) : nodes e ⟨k, x, n, d, p, l⟩ ≤ 1 + m := by
  cases e with
  | zero => simp [nodes]
  | succ e => have := h e; simp only [nodes]; omega
theorem G.count {n : NT} {ts r : List Tok} {l : List Tree} (h : G n ts l r) : ∀ d, (l.map (nodes d)).sum + r.length ≤ ts.length := by
  induction h with
  | word f t r h => intro d; simp [nodes_leaf]; omega
  | text f t r h => intro d; simp [nodes_leaf]; omega
  | amount f t r n d h => intro d; have := unit_len r; simp [nodes_leaf]; omega
  | group f t c r r' l h hl hc ih =>
    intro d
    have h1 := nodes_le 6 [] 0 0 t.pos l (r.length - (c :: r').length) (fun e => by have := ih e; omega) d
    have h2 := ih 0
    simp at h1 h2 ⊢
    omega
  | one f ts r v h ih => exact ih
  | comma f ts r r' c v l h hc hl ih1 ih2 =>
    intro d
    have h1 := ih1 d
    have h2 := ih2 d
    simp at h1 h2 ⊢
    omega
  | vnil ts => intro d; simp
  | vcons ts r r' v l h hl ih1 ih2 =>
    intro d
    have h1 := ih1 d
    have h2 := ih2 d
    simp at h1 h2 ⊢
    omega
  | prop t c r r' l h hl hc ih =>
    intro d
    have h1 := nodes_le 2 t.text 0 0 t.pos l (r.length - (c :: r').length) (fun e => by have := ih e; omega) d
    have h2 := ih 0
    simp at h1 h2 ⊢
    omega
  | pnil ts => intro d; simp
  | pcons ts r r' v l h hl ih1 ih2 =>
    intro d
    have h1 := ih1 d
    have h2 := ih2 d
    simp at h1 h2 ⊢
    omega
  | wnil ts => intro d; simp
  | wcons t r r' k l h hl ih =>
    intro d
    have h1 := ih d
    simp [nodes_leaf] at h1 ⊢
    omega
  | decl t c e r r1 r2 l1 l2 h hw hc hp he ih1 ih2 =>
    intro d
    have h1 := nodes_le 1 t.text 0 0 t.pos (l1 ++ l2) (r.length - (e :: r2).length) (fun x => by
      have := ih1 x
      have := ih2 x
      simp at *
      omega) d
    have h2 := ih1 0
    have h3 := ih2 0
    simp at h1 h2 h3 ⊢
    omega
  | fnil ts => intro d; simp
  | fcons ts r r' v l h hl ih1 ih2 =>
    intro d
    have h1 := ih1 d
    have h2 := ih2 d
    simp at h1 h2 ⊢
    omega
end Tr
/-- The sizes of what Parse returns. -/
theorem parseS_sizes (s : List UInt8) : (∀ d, Tr.Short d (parseS s).1) ∧ ∀ d, Tr.nodes d (parseS s).1 ≤ 70001 := by
  by_cases h : (parseS s).2.1 = 0
  · obtain ⟨hs, l, r, e, hg⟩ := parseS_yes h
    have hf := scanR_facts hs
    rw [e]
    have h1 := hg.short fun t ht => by obtain ⟨i, hi, rfl⟩ := List.getElem_of_mem ht; exact hf.2.2.2 i hi
    have h2 := hg.count
    refine ⟨fun d => ?_, fun d => ?_⟩
    · cases d with
      | zero => trivial
      | succ d => exact ⟨Nat.zero_le _, fun k hk => h1 k hk d⟩
    · have h3 := Tr.nodes_le 0 [] 0 0 0 l (scanR s).1.length (fun e => by have := h2 e; omega) d
      have := hf.2.1
      show Tr.nodes d ⟨0, [], 0, 0, 0, l⟩ ≤ 70001
      omega
  · rw [(parseS_no h).1]
    refine ⟨fun d => ?_, fun d => ?_⟩
    · cases d with
      | zero => trivial
      | succ d => exact ⟨Nat.zero_le _, fun k hk => by simp [Tr.zero] at hk⟩
    · rw [show Tr.zero = ⟨0, [], 0, 0, 0, []⟩ from rfl, Tr.nodes_leaf]
      omega
open Go.RowKit
/-- What Parse leaves, as it is read. -/
def ParseRd (s : List UInt8) (w : World) (e : Ending) (w' : World) : Prop :=
  ∃ o c d, e = .returned (.tuple #[.agg #[.int .i64 (parseS s).1.kind, .string ⟨(parseS s).1.text.toArray⟩, .int .i64 (parseS s).1.num, .int .i64 (parseS s).1.dim, .int .i64 (parseS s).1.pos, .slice o (parseS s).1.kids.length c], .int .i64 ((parseS s).2.1 : Nat), .int .i64 ((parseS s).2.2 : Nat)]) ∧
    NodeRd w' w'.heap.size d (.agg #[.int .i64 (parseS s).1.kind, .string ⟨(parseS s).1.text.toArray⟩, .int .i64 (parseS s).1.num, .int .i64 (parseS s).1.dim, .int .i64 (parseS s).1.pos, .slice o (parseS s).1.kids.length c]) (parseS s).1 ∧ Below w.heap.size w w'
theorem parse_rd (s : ByteArray) (w : World) (hs : s.size ≤ maxLen) (hw : Std w) : Calls Tryz.prog 12 #[.string s] w (ParseRd s.data.toList w) := by
  refine (parse_any s w hs hw).mono ?_
  rintro e w' ⟨v, S, d, rfl, hn, hS, hb⟩
  have hr := NodeIn.read (fun b hb => (hS b hb).2) d v _ ((parseS_sizes s.data.toList).1 d) hn
  obtain ⟨o, c, rfl, _⟩ := hr.look
  exact ⟨o, c, d, rfl, hr, hb⟩
end Go.Proofs.YtooajmbpncmgjaaGreatDoor
