/- Layer 13's scanner, plainly: what is written of tokens is read again. Layer 15's law TreeAts, plainly: where the nodes of a tree stand. -/
import Derived.Test.YtooajmbpncmgjaaGreatDoorPlain
import Derived.Lib.Join
namespace Go.Proofs.YtooajmbpncmgjaaGreatDoor.L
open Tr (flat)

/-- A source has these tokens, apart from offsets. -/
def Lexes (s : List UInt8) (l : List Tok) : Prop := ∀ pos, (toks pos s).2 = none ∧ (toks pos s).1.map flat = l
/-- A token that is one. -/
def Fine (k : Nat) (x : List UInt8) : Prop := firstL (spell k x) = (k, spell k x) ∧ okL (k, spell k x) = true

theorem toks_blank {c : UInt8} (hc : blankB c = true) (pos : Nat) (s : List UInt8) : toks pos (c :: s) = toks (pos + 1) s := by
  have hr : rest false (c :: s) = rest false s := by simp [rest, hc]
  have hl := rest_len false s
  have hsp : spaceL (c :: s) = spaceL s + 1 := by unfold spaceL; rw [hr, List.length_cons]; omega
  unfold toks
  rw [hr, hsp, toksR_fuel _ (s.length + 1) _ _ (by rw [List.length_cons]; omega) (by omega)]
  congr 1
  omega
theorem lexes_blank {c : UInt8} (hc : blankB c = true) {s : List UInt8} {l : List Tok} (h : Lexes s l) : Lexes (c :: s) l := fun pos => by
  rw [toks_blank hc]; exact h _
theorem lexes_nil : Lexes [] [] := fun pos => by rw [toks_nil (by simp [rest])]; exact ⟨rfl, rfl⟩
theorem sign_head : ∀ g ∈ signsL, ∀ c ∈ g.head?, blankB c = false ∧ c ≠ 35 := by decide
theorem letter_head (n : Nat) (h : letterN n = true ∨ digitN n = true) : n ≠ 32 ∧ n ≠ 9 ∧ n ≠ 13 ∧ n ≠ 10 ∧ n ≠ 35 := by
  unfold letterN digitN at h
  simp at h
  omega
theorem head_plain {c : UInt8} (h : letterN c.toNat = true ∨ digitN c.toNat = true) : blankB c = false ∧ c ≠ 35 := by
  have := letter_head c.toNat h
  refine ⟨?_, fun e => this.2.2.2.2 (by rw [e]; rfl)⟩
  cases hb : blankB c with
  | false => rfl
  | true =>
    simp only [blankB, Bool.or_eq_true, beq_iff_eq] at hb
    rcases hb with ((rfl | rfl) | rfl) | rfl
    · exact absurd rfl this.1
    · exact absurd rfl this.2.1
    · exact absurd rfl this.2.2.1
    · exact absurd rfl this.2.2.2.1
theorem rest_tok {s g : List UInt8} {k : Nat} (h : firstL s = (k, g)) (hn : g ≠ []) : rest false s = s := by
  obtain ⟨c, r, rfl, hc⟩ := first_cases h hn
  have q : blankB c = false ∧ c ≠ 35 := by
    rcases hc with ⟨_, h1, _⟩ | ⟨_, _, h1, _⟩ | ⟨_, rfl, _⟩ | ⟨_, _, _, _, h3⟩
    · exact head_plain (.inl h1)
    · exact head_plain (.inr h1)
    · decide
    · rcases signL_cases (c :: r) with h4 | ⟨h4, h5⟩
      · rw [← h3] at h4; exact absurd h4 hn
      · rw [← h3] at h4 h5
        obtain ⟨q, hq⟩ := List.isPrefixOf_iff_prefix.1 h5
        refine sign_head g h4 c ?_
        cases g with
        | nil => exact absurd rfl hn
        | cons x g =>
          simp at hq
          simp [hq.1]
  have h35 : (c == 35) = false := beq_eq_false_iff_ne.2 q.2
  simp [rest, q.1, h35]
theorem lexes_tok {g r : List UInt8} {k : Nat} {l : List Tok} (hf : firstL (g ++ r) = (k, g)) (ho : okL (k, g) = true) (h : Lexes r l) : Lexes (g ++ r) (⟨k, textOf (k, g), 0⟩ :: l) := fun pos => by
  rw [toks_step (rest_tok hf (okL_ne ho)) hf ho]
  obtain ⟨h1, h2⟩ := h (pos + spaceL (g ++ r) + g.length)
  exact ⟨h1, by rw [List.map_cons, h2]; rfl⟩
theorem text_spell (k : Nat) (x : List UInt8) : textOf (k, spell k x) = x := by
  unfold textOf spell
  by_cases hk : k = 2
  · subst hk
    simp
  · simp [hk]
theorem lexes_fine {k : Nat} {x r : List UInt8} {l : List Tok} (hx : Fine k x) (hr : Stop r) (h : Lexes r l) : Lexes (spell k x ++ r) (⟨k, x, 0⟩ :: l) := by
  have := lexes_tok (first_stop hx.1 (okL_ne hx.2) hr) hx.2 h
  rwa [text_spell] at this
theorem lexes_solo {g r : List UInt8} {l : List Tok} (hg : soloB g = true) (h : Lexes r l) : Lexes (g ++ r) (⟨3, g, 0⟩ :: l) := by
  have ho : okL (3, g) = true := by rcases solo_cases hg with rfl | rfl | rfl | rfl | rfl | rfl <;> decide
  exact lexes_tok (first_solo hg r) ho h
theorem stop_nil : Stop [] := fun c hc => by simp at hc
theorem stop_cons {c : UInt8} {r : List UInt8} (h : stopB c = true) : Stop (c :: r) := fun x hx => by simp at hx; subst hx; exact h

/-- Tokens with a space ahead of each. -/
theorem lexes_tail : ∀ (l : List Tok), (∀ t ∈ l, Fine t.kind t.text) → Lexes (Lib.joinTail [32] (l.map fun t => spell t.kind t.text)) (l.map flat)
  | [], _ => by simpa [Lib.joinTail] using lexes_nil
  | t :: r, h => by
    have ih := lexes_tail r fun x hx => h x (by simp [hx])
    have e : Lib.joinTail [32] ((t :: r).map fun t => spell t.kind t.text) = 32 :: (spell t.kind t.text ++ Lib.joinTail [32] (r.map fun t => spell t.kind t.text)) := by simp [Lib.joinTail]
    rw [e]
    refine lexes_blank (by decide) (lexes_fine (h t (by simp)) ?_ ih)
    cases r with
    | nil => simpa [Lib.joinTail] using stop_nil
    | cons u r => simpa [Lib.joinTail] using stop_cons (c := 32) (by decide)
theorem lexes_join (l : List Tok) (h : ∀ t ∈ l, Fine t.kind t.text) : Lexes (Lib.join (l.map fun t => spell t.kind t.text) [32]) (l.map flat) := by
  cases l with
  | nil => exact lexes_nil
  | cons t r =>
    rw [List.map_cons, Lib.join_cons]
    refine lexes_fine (h t (by simp)) ?_ (lexes_tail r fun x hx => h x (by simp [hx]))
    cases r with
    | nil => simpa [Lib.joinTail] using stop_nil
    | cons u r => simpa [Lib.joinTail] using stop_cons (c := 32) (by decide)
theorem fine_of {pos : Nat} {s : List UInt8} {t : Tok} (h : TokAt pos s t) : Fine t.kind t.text := ⟨h.self, h.ok⟩

/-- The bytes of all tokens. -/
def weight (l : List Tok) : Nat := (l.map fun t => (spell t.kind t.text).length).sum
theorem toks_weight : ∀ (n pos : Nat) (s : List UInt8), s.length < n → weight (toks pos s).1 ≤ s.length
  | 0, _, _, h => by omega
  | n + 1, pos, s, h => by
    rcases toks_cases pos s with ⟨_, e⟩ | ⟨k, g, r, hs, hf, ho, e⟩ | ⟨t, e⟩
    · rw [e]; simp [weight]
    · have hlen := rest_len false s
      rw [hs, List.length_append] at hlen
      have hg := List.length_pos_iff.2 (okL_ne ho)
      have hg : 0 < g.length := hg
      have ih := toks_weight n (pos + spaceL s + g.length) r (by omega)
      have hsp := spell_mk (pos := pos + spaceL s) hf ho
      rw [e]
      unfold weight at ih ⊢
      rw [List.map_cons, List.sum_cons, hsp]
      omega
    · rw [e]; simp [weight]
theorem scan_weight (s : List UInt8) : weight (scanL s).1 ≤ s.length := by rw [scan_toks]; exact toks_weight _ 0 s (Nat.lt_succ_self _)
/-- Names and numbers of digits. -/
theorem fine_digits (x : List UInt8) (h : ∀ c ∈ x, digitN c.toNat = true) (hn : x ≠ []) (hl : x.length ≤ 24) : Fine 1 x := by
  obtain ⟨c, r, rfl⟩ := List.exists_cons_of_ne_nil hn
  have hc := h c (by simp)
  have hlet : letterN c.toNat = false := by
    unfold digitN at hc
    unfold letterN
    simp at hc ⊢
    omega
  have hnum := number_of (c :: r) [] h (by simp) (by simp)
  rw [List.append_nil] at hnum
  constructor
  · rw [show spell 1 (c :: r) = c :: r from rfl, first_of.2.1 hlet hc, hnum]
  · unfold okL mostL
    simp [spell] at hl ⊢
    omega
theorem okL_fine {s g : List UInt8} {k : Nat} (h : firstL s = (k, g)) (ho : okL (k, g) = true) : Fine k (textOf (k, g)) := by
  unfold Fine
  rw [spell_text h (okL_ne ho)]
  exact ⟨first_self h (okL_ne ho), ho⟩
end Go.Proofs.YtooajmbpncmgjaaGreatDoor.L
namespace Go.Proofs.YtooajmbpncmgjaaGreatDoor.Tr
open L (Tok)

/-- The bytes with which a node begins. -/
def firstOf (t : Tree) : List UInt8 := if t.kind = 6 then [40] else if t.kind = 4 then 34 :: (t.text ++ [34]) else t.text
def beginsB (s : List UInt8) (p : Int) (x : List UInt8) : Bool := decide (0 ≤ p) && (decide (p + x.length ≤ s.length) && ((s.drop p.toNat).take x.length == x))
def digitAt (s : List UInt8) (p : Int) : Bool := decide (0 ≤ p) && (match s[p.toNat]? with | none => false | some c => decide (48 ≤ c.toNat) && decide (c.toNat ≤ 57))
/-- A node stands where it says. -/
def okAt (s : List UInt8) (t : Tree) (from_ : Int) : Bool := decide (from_ ≤ t.pos) && (beginsB s t.pos (firstOf t) && (t.kind != 5 || digitAt s t.pos))
mutual
def placedB (s : List UInt8) : Tree → Int → Option Int
  | ⟨_, _, _, _, _, l⟩, p => placedL s l p
def placedL (s : List UInt8) : List Tree → Int → Option Int
  | [], p => some p
  | t :: r, p => if okAt s t p then (match placedB s t (t.pos + 1) with | none => none | some q => placedL s r q) else none
end
theorem placedB_eq (s : List UInt8) (t : Tree) (p : Int) : placedB s t p = placedL s t.kids p := by cases t; rw [placedB]
theorem placedL_app (s : List UInt8) : ∀ (a b : List Tree) (p : Int), placedL s (a ++ b) p = (match placedL s a p with | none => none | some q => placedL s b q)
  | [], b, p => by simp [placedL]
  | t :: a, b, p => by
    rw [List.cons_append, placedL, placedL]
    split
    · cases placedB s t (t.pos + 1) with
      | none => rfl
      | some q => exact placedL_app s a b q
    · rfl

/-- Tokens that stand in a source. -/
structure Stand (s : List UInt8) (ts : List Tok) : Prop where
  at' : ∀ t ∈ ts, t.kind ≠ 4 → L.TokAt 0 s t
  asc : ts.Pairwise fun a b => a.kind ≠ 4 → a.pos + 1 ≤ b.pos
theorem Stand.of {s : List UInt8} {ts r : List Tok} (h : Stand s ts) (hr : r <:+ ts) : Stand s r :=
  ⟨fun t ht => h.at' t (hr.subset ht), h.asc.sublist hr.sublist⟩
theorem Stand.tail {s : List UInt8} {t : Tok} {r : List Tok} (h : Stand s (t :: r)) : Stand s r := h.of (List.suffix_cons _ _)
/-- Behind a token. -/
theorem Stand.next {s : List UInt8} {t : Tok} {r : List Tok} (h : Stand s (t :: r)) (hk : t.kind ≠ 4) : ∀ c ∈ r, (t.pos : Int) + 1 ≤ c.pos := fun c hc => by
  have := (List.pairwise_cons.1 h.asc).1 c hc hk
  omega
theorem begins_of {s x : List UInt8} {p : Nat} {r : List UInt8} (h : s.drop p = x ++ r) (hp : p ≤ s.length) : beginsB s p x = true := by
  have hl := congrArg List.length h
  simp at hl
  unfold beginsB
  rw [show ((p : Int)).toNat = p from rfl, h]
  simp
  omega
theorem at_le {s : List UInt8} {t : Tok} (h : L.TokAt 0 s t) : t.pos ≤ s.length := by have := h.len; omega
theorem stand_leaf {s : List UInt8} {t : Tok} {r : List Tok} (h : Stand s (t :: r)) (k : Int) (hk : t.kind = 0 ∧ k = 3 ∨ t.kind = 2 ∧ k = 4) (p : Int) (hp : p ≤ t.pos) (l : List Tree) :
    placedL s (⟨k, t.text, 0, 0, t.pos, []⟩ :: l) p = placedL s l (t.pos + 1) := by
  have ht := h.at' t (by simp) (by omega)
  obtain ⟨q, hq⟩ := ht.at'
  have hb := begins_of hq (by have := at_le ht; omega)
  rw [Nat.sub_zero] at hb
  rw [placedL, placedB, placedL]
  have hf : firstOf ⟨k, t.text, 0, 0, t.pos, []⟩ = L.spell t.kind t.text := by
    unfold firstOf L.spell
    rcases hk with ⟨h1, rfl⟩ | ⟨h1, rfl⟩ <;> simp [h1]
  have hok : okAt s ⟨k, t.text, 0, 0, t.pos, []⟩ p = true := by
    unfold okAt
    rw [hf]
    simp only [hb]
    rcases hk with ⟨h1, rfl⟩ | ⟨h1, rfl⟩ <;> simp [hp]
  rw [if_pos hok]
theorem stand_node {s : List UInt8} {t : Tok} {r : List Tok} (h : Stand s (t :: r)) (k : Int) (x : List UInt8) (hk : (k = 1 ∨ k = 2) ∧ t.kind = 0 ∧ x = t.text ∨ k = 6 ∧ t.kind = 3 ∧ t.text = [40]) (p : Int) (hp : p ≤ t.pos) (kids l : List Tree) :
    placedL s (⟨k, x, 0, 0, t.pos, kids⟩ :: l) p = (match placedL s kids (t.pos + 1) with | none => none | some q => placedL s l q) := by
  have ht := h.at' t (by simp) (by omega)
  obtain ⟨q, hq⟩ := ht.at'
  have hb := begins_of hq (by have := at_le ht; omega)
  rw [Nat.sub_zero] at hb
  rw [placedL, placedB]
  have hf : firstOf ⟨k, x, 0, 0, t.pos, kids⟩ = L.spell t.kind t.text := by
    unfold firstOf L.spell
    rcases hk with ⟨rfl | rfl, h1, rfl⟩ | ⟨rfl, h1, h2⟩
    · simp [h1]
    · simp [h1]
    · simp [h1, h2]
  have hok : okAt s ⟨k, x, 0, 0, t.pos, kids⟩ p = true := by
    unfold okAt
    rw [hf]
    simp only [hb]
    rcases hk with ⟨rfl | rfl, _⟩ | ⟨rfl, _⟩ <;> simp [hp]
  rw [if_pos hok]
theorem number_digit {g : List UInt8} (h : L.firstL g = (1, g)) (hn : g ≠ []) : ∃ c r, g = c :: r ∧ L.digitN c.toNat = true := by
  obtain ⟨c, r, e, hc⟩ := L.first_cases h hn
  rcases hc with ⟨h1, _⟩ | ⟨_, _, h1, _⟩ | ⟨h1, _⟩ | ⟨h1, _⟩
  · cases h1
  · exact ⟨c, r, e, h1⟩
  · cases h1
  · cases h1
theorem stand_amount {s : List UInt8} {t : Tok} {r : List Tok} (h : Stand s (t :: r)) (hk : t.kind = 1) (n d p : Int) (hp : p ≤ t.pos) (l : List Tree) :
    placedL s (⟨5, [], n, d, t.pos, []⟩ :: l) p = placedL s l (t.pos + 1) := by
  have ht := h.at' t (by simp) (by omega)
  have hself := ht.self
  have hok := ht.ok
  obtain ⟨q, hq⟩ := ht.at'
  rw [hk] at hself hok hq
  obtain ⟨c, r2, e, hc⟩ := number_digit hself (L.okL_ne hok)
  rw [e, Nat.sub_zero] at hq
  have hle := at_le ht
  rw [placedL, placedB, placedL]
  have hgd : s[t.pos]? = some c := by
    have := congrArg List.head? hq
    rw [List.head?_drop] at this
    exact this
  have hd : digitAt s t.pos = true := by
    unfold digitAt
    rw [show ((t.pos : Int)).toNat = t.pos from rfl, hgd]
    unfold L.digitN at hc
    simpa using hc
  have hok2 : okAt s ⟨5, [], n, d, t.pos, []⟩ p = true := by
    unfold okAt firstOf beginsB
    simp [hp, hd]
    omega
  rw [if_pos hok2]
theorem sign_text {t : Tok} {x : List UInt8} (h : signB t x = true) : t.kind = 3 ∧ t.text = x := by
  unfold signB at h
  simpa using h

theorem G.placed {s : List UInt8} {n : NT} {ts r : List Tok} {l : List Tree} (h : G n ts l r) : Stand s ts → ∀ p : Int, (∀ t ∈ ts, p ≤ t.pos) → ∃ q : Int, placedL s l p = some q ∧ ∀ t ∈ r, q ≤ t.pos := by
  induction h with
  | word f t r h =>
    intro hs p hp
    rw [stand_leaf hs 3 (.inl ⟨h, rfl⟩) p (hp t (by simp)), placedL]
    exact ⟨_, rfl, hs.next (by omega)⟩
  | text f t r h =>
    intro hs p hp
    rw [stand_leaf hs 4 (.inr ⟨h, rfl⟩) p (hp t (by simp)), placedL]
    exact ⟨_, rfl, hs.next (by omega)⟩
  | amount f t r n d h ha =>
    intro hs p hp
    rw [stand_amount hs h n d p (hp t (by simp)), placedL]
    refine ⟨_, rfl, fun c hc => hs.next (by omega) c ?_⟩
    unfold unitP at hc
    split at hc
    · exact List.mem_of_mem_tail hc
    · exact hc
  | group f t c r r' l h hl hc ih =>
    intro hs p hp
    obtain ⟨h1, h2⟩ := sign_text h
    have hn := hs.next (by omega)
    obtain ⟨q, e, hq⟩ := ih hs.tail _ hn
    rw [stand_node hs 6 [] (.inr ⟨rfl, h1, h2⟩) p (hp t (by simp)), e]
    exact ⟨q, by simp [placedL], fun t ht => hq t (by simp [ht])⟩
  | one f ts r v h ih => exact ih
  | comma f ts r r' c v l h hc hl ih1 ih2 =>
    intro hs p hp
    obtain ⟨q, e, hq⟩ := ih1 hs p hp
    obtain ⟨q2, e2, hq2⟩ := ih2 ((hs.of h.suffix).tail) q fun t ht => hq t (by simp [ht])
    refine ⟨q2, ?_, hq2⟩
    rw [show v :: l = [v] ++ l from rfl, placedL_app, e]
    exact e2
  | vnil ts => intro _ p hp; exact ⟨p, by rw [placedL], hp⟩
  | vcons ts r r' v l h hl ih1 ih2 =>
    intro hs p hp
    obtain ⟨q, e, hq⟩ := ih1 hs p hp
    obtain ⟨q2, e2, hq2⟩ := ih2 (hs.of h.suffix) q hq
    refine ⟨q2, ?_, hq2⟩
    rw [show v :: l = [v] ++ l from rfl, placedL_app, e]
    exact e2
  | prop t c r r' l h hl hc ih =>
    intro hs p hp
    have hn := hs.next (by omega)
    obtain ⟨q, e, hq⟩ := ih hs.tail _ hn
    rw [stand_node hs 2 t.text (.inl ⟨.inr rfl, h, rfl⟩) p (hp t (by simp)), e]
    exact ⟨q, by simp [placedL], fun t ht => hq t (by simp [ht])⟩
  | pnil ts => intro _ p hp; exact ⟨p, by rw [placedL], hp⟩
  | pcons ts r r' v l h hl ih1 ih2 =>
    intro hs p hp
    obtain ⟨q, e, hq⟩ := ih1 hs p hp
    obtain ⟨q2, e2, hq2⟩ := ih2 (hs.of h.suffix) q hq
    refine ⟨q2, ?_, hq2⟩
    rw [show v :: l = [v] ++ l from rfl, placedL_app, e]
    exact e2
  | wnil ts => intro _ p hp; exact ⟨p, by rw [placedL], hp⟩
  | wcons t r r' k l h hl ih =>
    intro hs p hp
    rw [stand_leaf hs k h p (hp t (by simp))]
    exact ih hs.tail _ (hs.next (by omega))
  | decl t c e r r1 r2 l1 l2 h hw hc hp he ih1 ih2 =>
    intro hs p hp2
    have hn := hs.next (by omega)
    obtain ⟨q, e1, hq⟩ := ih1 hs.tail _ hn
    obtain ⟨q2, e2, hq2⟩ := ih2 ((hs.tail.of hw.suffix).tail) q fun t ht => hq t (by simp [ht])
    rw [stand_node hs 1 t.text (.inl ⟨.inl rfl, h, rfl⟩) p (hp2 t (by simp)), placedL_app, e1]
    dsimp only
    rw [e2]
    exact ⟨q2, by simp [placedL], fun t ht => hq2 t (by simp [ht])⟩
  | fnil ts => intro _ p hp; exact ⟨p, by rw [placedL], hp⟩
  | fcons ts r r' v l h hl ih1 ih2 =>
    intro hs p hp
    obtain ⟨q, e, hq⟩ := ih1 hs p hp
    obtain ⟨q2, e2, hq2⟩ := ih2 (hs.of h.suffix) q hq
    refine ⟨q2, ?_, hq2⟩
    rw [show v :: l = [v] ++ l from rfl, placedL_app, e]
    exact e2
end Go.Proofs.YtooajmbpncmgjaaGreatDoor.Tr
