/- Layer 15's written trees, plainly: what is written of a right tree is read again. Layer 15's written trees, plainly: their tokens are parsed again. Layer 15's parsed trees, plainly: they are right, and their written form is short. Layer 15's law TreeUnits, plainly. -/
import Derived.Test.YtooajmbpncmgjaaGreatDoorNodeI
import Derived.Test.YtooajmbpncmgjaaGreatDoorFailsMath
import Derived.Test.YtooajmbpncmgjaaGreatDoorPlain2
namespace Go.Proofs.YtooajmbpncmgjaaGreatDoor
open L (Tok)

/-- one: the text is such a token. -/
theorem one_fine {x : List UInt8} {k : Nat} (hk : k ≤ 3) (h : Tr.oneB x k = true) : L.Fine k x := by
  have hq : (if (k : Int) = 2 then 34 :: (x ++ [34]) else x) = L.spell k x := by
    unfold L.spell
    by_cases h2 : k = 2
    · rw [if_pos h2, if_pos (by omega)]
    · rw [if_neg h2, if_neg (by omega)]
  unfold Tr.oneB Tr.oneQ at h
  rw [hq] at h
  generalize hQ : L.spell k x = q at h
  rw [Bool.and_eq_true, beq_iff_eq] at h
  obtain ⟨h0, h1⟩ := h
  obtain ⟨_, hn, hT, _⟩ := scanR_ok h0
  rw [hT] at h1
  have hat := (L.scan_at q).1
  generalize (L.scanL q).1 = l at h1 hat
  match l, h1, hat with
  | [], h1, _ => simp at h1
  | [a], h1, hat =>
    simp only [List.cons_append, List.nil_append, Bool.and_eq_true, beq_iff_eq] at h1
    obtain ⟨⟨h2, _⟩, h3⟩ := h1
    have ha := hat a (by simp)
    have hka : a.kind = k := by omega
    have e : L.writeL [a, ⟨4, [], q.length⟩] = L.spell a.kind a.text := by
      unfold L.writeL L.textsW L.textW L.spell
      have : a.kind = 0 ∨ a.kind = 1 ∨ a.kind = 2 ∨ a.kind = 3 := by omega
      rcases this with e | e | e | e <;> simp [e, Lib.join_one]
    rw [e] at h3
    have hf := L.fine_of ha
    unfold L.Fine at hf ⊢
    rw [h3, hka] at hf
    rw [hQ]
    exact hf
  | _ :: _ :: _, h1, _ => simp at h1
theorem fine_one {x : List UInt8} {k : Nat} (hk : k = 0 ∨ k = 2) (h : L.Fine k x) : Tr.oneB x k = true := by
  have hq : (if (k : Int) = 2 then 34 :: (x ++ [34]) else x) = L.spell k x := by
    unfold L.spell
    by_cases h2 : k = 2
    · rw [if_pos h2, if_pos (by omega)]
    · rw [if_neg h2, if_neg (by omega)]
  have hlen : (L.spell k x).length ≤ 502 := by
    have := h.2
    unfold L.okL at this
    simp at this
    have h2 : L.mostL k ≤ 502 := by unfold L.mostL; split <;> omega
    omega
  have hsc : L.scanL (L.spell k x) = ([⟨k, x, 0⟩], none) := by
    rw [L.scan_toks]
    have hf := h.1
    have ht := L.toks_step (pos := 0) (s := L.spell k x) (r := []) (by rw [List.append_nil]; exact L.rest_tok hf (L.okL_ne h.2)) (by rw [List.append_nil]; exact hf) h.2
    have hsp : L.spaceL (L.spell k x) = 0 := by unfold L.spaceL; rw [L.rest_tok hf (L.okL_ne h.2)]; omega
    rw [ht, hsp, L.toks_nil (by simp [L.rest])]
    unfold L.mkTok
    rw [L.text_spell]
  unfold Tr.oneB Tr.oneQ
  rw [hq, scanR_of (by omega) hsc]
  unfold L.writeL L.textsW L.textW L.spell
  rcases hk with rfl | rfl <;> simp [Lib.join_one]

namespace Tr
def sg (c : UInt8) : Tok := ⟨3, [c], 0⟩
def tkU (d : Int) : List Tok := match U.baseName d with | some nm => if nm = [] then [] else [⟨0, nm, 0⟩] | none => []
/-- The tokens of a written amount. -/
def tkA (n d : Int) : List Tok := ⟨1, Lib.itoa n, 0⟩ :: tkU d
mutual
def tkV : Tree → List Tok
  | ⟨k, x, n, d, _, l⟩ => if k = 4 then [⟨2, x, 0⟩] else if k = 5 then tkA n d else if k = 6 then sg 40 :: (tkG l ++ [sg 41]) else [⟨0, x, 0⟩]
def tkG : List Tree → List Tok
  | [] => []
  | t :: r => tkV t ++ tkT r
def tkT : List Tree → List Tok
  | [] => []
  | t :: r => sg 44 :: (tkV t ++ tkT r)
end
theorem tkV_eq (t : Tree) : tkV t = if t.kind = 4 then [⟨2, t.text, 0⟩] else if t.kind = 5 then tkA t.num t.dim else if t.kind = 6 then sg 40 :: (tkG t.kids ++ [sg 41]) else [⟨0, t.text, 0⟩] := by cases t; rw [tkV]
def tkP (t : Tree) : List Tok := ⟨0, t.text, 0⟩ :: (t.kids.flatMap tkV ++ [sg 59])
def tkD (t : Tree) : List Tok := ⟨0, t.text, 0⟩ :: ((t.kids.take (words t.kids)).flatMap tkV ++ (sg 123 :: ((t.kids.drop (words t.kids)).flatMap tkP ++ [sg 125])))
def tkF (t : Tree) : List Tok := t.kids.flatMap tkD

/-- A right value that is no group. -/
theorem value_leaf {m : Nat} {t : Tree} (h : valueB m t = true) (hk : t.kind ≠ 6) : plainB t = true ∧ leafB t = true := by
  cases m with
  | zero => unfold valueB at h; simpa using h
  | succ m => unfold valueB at h; simpa [hk] using h
theorem leaf_cases {t : Tree} (h : leafB t = true) (hp : plainB t = true) : (t.kind = 3 ∧ L.Fine 0 t.text ∧ t.num = 0 ∧ t.dim = 0 ∧ t.kids = []) ∨ (t.kind = 4 ∧ L.Fine 2 t.text ∧ t.num = 0 ∧ t.dim = 0 ∧ t.kids = []) ∨ (t.kind = 5 ∧ 0 ≤ t.num ∧ t.num ≤ 1125899906842624 ∧ 0 ≤ t.dim ∧ t.dim ≤ 6 ∧ t.text = [] ∧ t.kids = []) := by
  unfold leafB at h
  unfold plainB at hp
  simp only [Bool.and_eq_true, Bool.or_eq_true, bne_iff_ne, beq_iff_eq, List.length_eq_zero_iff] at hp
  obtain ⟨⟨h1, h2⟩, h3⟩ := hp
  by_cases k3 : t.kind = 3
  · rw [if_pos k3] at h
    refine .inl ⟨k3, one_fine (k := 0) (by decide) h, ?_, ?_, ?_⟩
    · omega
    · omega
    · rcases h1 with h1 | h1
      · omega
      · exact h1
  · rw [if_neg k3] at h
    by_cases k4 : t.kind = 4
    · rw [if_pos k4] at h
      refine .inr (.inl ⟨k4, one_fine (k := 2) (by decide) h, ?_, ?_, ?_⟩)
      · omega
      · omega
      · rcases h1 with h1 | h1
        · omega
        · exact h1
    · rw [if_neg k4] at h
      by_cases k5 : t.kind = 5
      · rw [if_pos k5] at h
        simp at h
        refine .inr (.inr ⟨k5, by omega, by omega, by omega, by omega, ?_, ?_⟩)
        · rcases h2 with (((h2 | h2) | h2) | h2) | h2
          · omega
          · omega
          · omega
          · omega
          · exact h2
        · rcases h1 with h1 | h1
          · omega
          · exact h1
      · rw [if_neg k5] at h; cases h
theorem value_group_of {m : Nat} {t : Tree} (h : valueB m t = true) (hk : t.kind = 6) : ∃ n, m = n + 1 ∧ (∀ k ∈ t.kids, valueB n k = true) ∧ t.kids ≠ [] ∧ t.text = [] ∧ t.num = 0 ∧ t.dim = 0 := by
  cases m with
  | zero => unfold valueB leafB at h; simp [hk] at h
  | succ m =>
    unfold valueB at h
    rw [if_pos hk] at h
    simp only [Bool.and_eq_true, List.all_eq_true, Bool.not_eq_true', List.isEmpty_eq_false_iff] at h
    obtain ⟨hp, h1, h2⟩ := h
    unfold plainB at hp
    simp only [Bool.and_eq_true, Bool.or_eq_true, bne_iff_ne, beq_iff_eq] at hp
    refine ⟨m, rfl, h1, h2, ?_, ?_, ?_⟩
    · rcases hp.1.2 with (((h2 | h2) | h2) | h2) | h2
      · omega
      · omega
      · omega
      · omega
      · exact h2
    · omega
    · omega

/-! ### The written form's tokens -/

theorem base_fine : ∀ d, d ≤ 6 → ∃ nm, U.baseName (d : Nat) = some nm ∧ (nm ≠ [] → L.Fine 0 nm ∧ known nm = true) ∧ ((d = 0) = (nm = [])) := by
  have q : ∀ d : Fin 7, ∃ nm, U.baseName (d.val : Nat) = some nm ∧ (nm ≠ [] → (L.firstL (L.spell 0 nm) = (0, L.spell 0 nm) ∧ L.okL (0, L.spell 0 nm) = true) ∧ known nm = true) ∧ ((d.val = 0) ↔ (nm = [])) := by
    intro d
    match d with
    | ⟨0, _⟩ => exact ⟨[], rfl, fun h => absurd rfl h, by simp⟩
    | ⟨1, _⟩ => exact ⟨[108], rfl, fun _ => by decide +kernel, by simp⟩
    | ⟨2, _⟩ => exact ⟨[108, 112, 104], rfl, fun _ => by decide +kernel, by simp⟩
    | ⟨3, _⟩ => exact ⟨[109, 109], rfl, fun _ => by decide +kernel, by simp⟩
    | ⟨4, _⟩ => exact ⟨[104], rfl, fun _ => by decide +kernel, by simp⟩
    | ⟨5, _⟩ => exact ⟨[109, 50], rfl, fun _ => by decide +kernel, by simp⟩
    | ⟨6, _⟩ => exact ⟨[112, 101, 114, 109, 105, 108, 108, 101], rfl, fun _ => by decide +kernel, by simp⟩
  intro d hd
  obtain ⟨nm, h1, h2, h3⟩ := q ⟨d, by omega⟩
  exact ⟨nm, h1, h2, propext h3⟩
theorem itoa_fine (n : Int) (h0 : 0 ≤ n) (h1 : n ≤ 1125899906842624) : L.Fine 1 (Lib.itoa n) := by
  obtain ⟨u, rfl⟩ : ∃ u : Nat, n = u := ⟨n.toNat, by omega⟩
  rw [U.itoa_nat _ h0, show ((u : Int)).toNat = u from rfl]
  obtain ⟨a1, a2, a3, a4⟩ := U.dec_all 15 u (by omega)
  refine L.fine_digits _ (fun c hc => ?_) a3 (by have := U.dec_len 15 u (by omega); omega)
  have := List.all_eq_true.1 a1 c hc
  unfold U.isDig at this
  unfold L.digitN
  simpa using this
theorem lexes_amount {n d : Int} (h0 : 0 ≤ n) (h1 : n ≤ 1125899906842624) (h2 : 0 ≤ d) (h3 : d ≤ 6) {r : List UInt8} {l : List Tok} (hr : L.Stop r) (h : L.Lexes r l) : L.Lexes (U.writeU n d ++ r) (tkA n d ++ l) := by
  obtain ⟨e, rfl⟩ : ∃ e : Nat, d = e := ⟨d.toNat, by omega⟩
  obtain ⟨nm, hb, hf, _⟩ := base_fine e (by omega)
  have hi := itoa_fine n h0 h1
  unfold U.writeU tkA tkU
  rw [if_neg (by omega), hb]
  dsimp only
  by_cases hn : nm = []
  · rw [if_pos hn, if_pos hn]
    exact L.lexes_fine hi hr h
  · rw [if_neg hn, if_neg hn]
    have := L.lexes_fine hi (r := 32 :: (nm ++ r)) (L.stop_cons (by decide)) (L.lexes_blank (by decide) (L.lexes_fine (hf hn).1 hr h))
    simpa [L.spell] using this
/-- Values behind commas. -/
theorem lexes_list {m : Nat} (ih : ∀ t, valueB m t = true → ∀ r l, L.Stop r → L.Lexes r l → L.Lexes (wrV t ++ r) (tkV t ++ l)) : ∀ (q : List Tree), (∀ k ∈ q, valueB m k = true) → ∀ r l, L.Stop r → L.Lexes r l → L.Stop (wrT q ++ r) ∧ L.Lexes (wrT q ++ r) (tkT q ++ l)
  | [], _, r, l, hr, h => ⟨by simpa [wrT] using hr, by simpa [wrT, tkT] using h⟩
  | t :: q, hq, r, l, hr, h => by
    obtain ⟨a1, a2⟩ := lexes_list ih q (fun k hk => hq k (by simp [hk])) r l hr h
    have h2 := ih t (hq t (by simp)) _ _ a1 a2
    constructor
    · simpa [wrT] using L.stop_cons (c := 44) (by decide)
    · have := L.lexes_solo (g := [44]) (by decide) (L.lexes_blank (c := 32) (by decide) h2)
      simpa [wrT, tkT, sg] using this
theorem lexes_value : ∀ (m : Nat) (t : Tree), valueB m t = true → ∀ r l, L.Stop r → L.Lexes r l → L.Lexes (wrV t ++ r) (tkV t ++ l)
  | m, t, hv, r, l, hr, h => by
    rw [wrV_eq, tkV_eq]
    by_cases hk : t.kind = 6
    · obtain ⟨n, rfl, h1, h2, _⟩ := value_group_of hv hk
      rw [if_neg (by omega), if_neg (by omega), if_pos hk, if_neg (by omega), if_neg (by omega), if_pos hk]
      obtain ⟨k, q, hkq⟩ := List.exists_cons_of_ne_nil h2
      rw [hkq] at h1 ⊢
      obtain ⟨a1, a2⟩ := lexes_list (m := n) (fun t ht => lexes_value n t ht) q (fun x hx => h1 x (by simp [hx])) (41 :: r) (sg 41 :: l) (L.stop_cons (by decide)) (L.lexes_solo (g := [41]) (by decide) h)
      have a3 := lexes_value n k (h1 k (by simp)) _ _ a1 a2
      have := L.lexes_solo (g := [40]) (by decide) a3
      simpa [wrG, tkG, sg] using this
    · obtain ⟨hp, hl⟩ := value_leaf hv hk
      rcases leaf_cases hl hp with ⟨k3, hf, _⟩ | ⟨k4, hf, _⟩ | ⟨k5, b0, b1, b2, b3, _⟩
      · rw [if_neg (by omega), if_neg (by omega), if_neg (by omega), if_neg (by omega), if_neg (by omega), if_neg (by omega)]
        exact L.lexes_fine hf hr h
      · rw [if_pos k4, if_pos k4]
        exact L.lexes_fine hf hr h
      · rw [if_neg (by omega), if_pos k5, if_neg (by omega), if_pos k5]
        exact lexes_amount b0 b1 b2 b3 hr h
/-- Values behind spaces. -/
theorem lexes_values : ∀ (q : List Tree), (∀ k ∈ q, valueB 40 k = true) → ∀ r l, L.Stop r → L.Lexes r l → L.Stop (q.flatMap wrS ++ r) ∧ L.Lexes (q.flatMap wrS ++ r) (q.flatMap tkV ++ l)
  | [], _, r, l, hr, h => ⟨by simpa using hr, by simpa using h⟩
  | t :: q, hq, r, l, hr, h => by
    obtain ⟨a1, a2⟩ := lexes_values q (fun k hk => hq k (by simp [hk])) r l hr h
    have h2 := lexes_value 40 t (hq t (by simp)) _ _ a1 a2
    constructor
    · simpa [wrS] using L.stop_cons (c := 32) (by decide)
    · have := L.lexes_blank (c := 32) (by decide) h2
      simpa [wrS] using this
theorem prop_facts {t : Tree} (h : propB t = true) : t.kind = 2 ∧ L.Fine 0 t.text ∧ t.num = 0 ∧ t.dim = 0 ∧ (∀ k ∈ t.kids, valueB 40 k = true) ∧ ∀ i (hi : i + 1 < t.kids.length), pairB (t.kids[i]'(by omega)) t.kids[i + 1] = false := by
  have hk := prop_kids h
  unfold propB at h
  simp only [Bool.and_eq_true, beq_iff_eq] at h
  obtain ⟨h1, h2, h3, h4⟩ := h
  unfold plainB at h2
  simp only [Bool.and_eq_true, Bool.or_eq_true, bne_iff_ne, beq_iff_eq] at h2
  refine ⟨h1, one_fine (k := 0) (by decide) h3, by omega, by omega, fun k hk2 => ?_, fun i hi => ?_⟩
  · obtain ⟨i, hi, rfl⟩ := List.getElem_of_mem hk2
    exact hk i hi
  · have := List.all_eq_true.1 h4 (i + 1) (List.mem_range.2 hi)
    unfold stepB at this
    rw [List.getElem?_eq_getElem hi] at this
    simp only [Bool.and_eq_true, Bool.or_eq_true, Nat.add_sub_cancel] at this
    rw [List.getElem?_eq_getElem (by omega : i < t.kids.length)] at this
    rcases this.2 with h5 | h5
    · simp at h5
    · simpa using h5
theorem lexes_prop {t : Tree} (h : propB t = true) {r : List UInt8} {l : List Tok} (hl : L.Lexes r l) : L.Lexes (wrP t ++ r) (tkP t ++ l) := by
  obtain ⟨_, hf, _, _, hk, _⟩ := prop_facts h
  obtain ⟨a1, a2⟩ := lexes_values t.kids hk (59 :: 10 :: r) (sg 59 :: l) (L.stop_cons (by decide)) (L.lexes_solo (g := [59]) (by decide) (L.lexes_blank (by decide) hl))
  have := L.lexes_blank (c := 32) (by decide) (L.lexes_blank (c := 32) (by decide) (L.lexes_fine hf a1 a2))
  simpa [wrP, tkP, L.spell] using this
theorem lexes_props : ∀ (q : List Tree), (∀ k ∈ q, propB k = true) → ∀ r l, L.Lexes r l → L.Lexes (q.flatMap wrP ++ r) (q.flatMap tkP ++ l)
  | [], _, r, l, h => by simpa using h
  | t :: q, hq, r, l, h => by
    have := lexes_prop (hq t (by simp)) (lexes_props q (fun k hk => hq k (by simp [hk])) r l h)
    simpa using this
theorem words_word (l : List Tree) (h : ∀ k (hk : k < l.length), (if wordsTo l (k + 1) then valueB 40 l[k] else propB l[k]) = true) : ∀ j, j ≤ words l → wordsTo l j = true
  | 0, _ => by simp [wordsTo]
  | j + 1, hj => by
    have hjl : j < l.length := Nat.lt_of_lt_of_le hj (words_le l)
    have h1 := h j hjl
    have h2 := (words_at l j hjl).1 hj
    rw [wordsTo_succ l j hjl, words_word l h j (by omega), Bool.true_and] at h1 ⊢
    by_cases hb : wordB l[j] = true
    · exact hb
    · rw [if_neg hb] at h1
      unfold propB at h1
      simp at h1
      exact absurd h1.1 h2
theorem decl_facts {t : Tree} (h : declB t = true) : t.kind = 1 ∧ L.Fine 0 t.text ∧ t.num = 0 ∧ t.dim = 0 ∧ (∀ k ∈ t.kids.take (words t.kids), valueB 40 k = true ∧ wordB k = true) ∧ ∀ k ∈ t.kids.drop (words t.kids), propB k = true := by
  have hk := decl_kids h
  unfold declB at h
  simp only [Bool.and_eq_true, beq_iff_eq] at h
  obtain ⟨h1, h2, h3, h4⟩ := h
  unfold plainB at h2
  simp only [Bool.and_eq_true, Bool.or_eq_true, bne_iff_ne, beq_iff_eq] at h2
  have hw := words_word t.kids (fun k hk => by
    have := List.all_eq_true.1 h4 k (List.mem_range.2 hk)
    unfold stepD at this
    rw [List.getElem?_eq_getElem hk] at this
    exact this) (words t.kids) (Nat.le_refl _)
  unfold wordsTo at hw
  rw [List.all_eq_true] at hw
  refine ⟨h1, one_fine (k := 0) (by decide) h3, by omega, by omega, fun k hk2 => ⟨?_, hw k hk2⟩, fun k hk2 => ?_⟩
  · obtain ⟨i, hi, rfl⟩ := List.getElem_of_mem hk2
    rw [List.getElem_take]
    rw [List.length_take] at hi
    exact (hk i (by omega)).1 (by omega)
  · obtain ⟨i, hi, rfl⟩ := List.getElem_of_mem hk2
    rw [List.getElem_drop]
    rw [List.length_drop] at hi
    exact (hk _ (by omega)).2 (by omega)
theorem lexes_decl {t : Tree} (h : declB t = true) {r : List UInt8} {l : List Tok} (hl : L.Lexes r l) : L.Lexes (wrD t ++ r) (tkD t ++ l) := by
  obtain ⟨_, hf, _, _, hw, hp⟩ := decl_facts h
  have b := lexes_props _ hp (125 :: 10 :: r) (sg 125 :: l) (L.lexes_solo (g := [125]) (by decide) (L.lexes_blank (by decide) hl))
  obtain ⟨a1, a2⟩ := lexes_values _ (fun k hk => (hw k hk).1) _ _ (L.stop_cons (c := 32) (by decide)) (L.lexes_blank (c := 32) (by decide) (L.lexes_solo (g := [123]) (by decide) (L.lexes_blank (c := 10) (by decide) b)))
  have := L.lexes_fine hf a1 a2
  simpa [wrD, tkD, L.spell, sg] using this
theorem lexes_file : ∀ (q : List Tree), (∀ k ∈ q, declB k = true) → L.Lexes (q.flatMap wrD) (q.flatMap tkD)
  | [], _ => by simpa using L.lexes_nil
  | t :: q, hq => by
    have := lexes_decl (hq t (by simp)) (lexes_file q fun k hk => hq k (by simp [hk]))
    simpa using this
end Tr
end Go.Proofs.YtooajmbpncmgjaaGreatDoor
namespace Go.Proofs.YtooajmbpncmgjaaGreatDoor
open L (Tok)
namespace Tr
theorem unit_no {r : List Tok} (h : (hd r).kind ≠ 0) : unitP r = ([], r) := by
  unfold unitP
  rw [if_neg (by simp [h])]
theorem unit_word {c : Tok} {r : List Tok} (h : c.kind = 0 → known c.text = false) : unitP (c :: r) = ([], c :: r) := by
  unfold unitP
  rw [show hd (c :: r) = c from rfl, if_neg]
  intro e
  simp only [Bool.and_eq_true, beq_iff_eq] at e
  rw [h e.1] at e
  exact absurd e.2 (by simp)
theorem skip_of {c : Tok} {s : List UInt8} (h : signB c s = true) (r : List Tok) : skipP s (c :: r) = .ok r := by
  unfold skipP
  rw [show hd (c :: r) = c from rfl, if_pos h]
  rfl
theorem take_of {c : Tok} {k : Nat} (h : c.kind = k) (r : List Tok) : takeP k (c :: r) = .ok (c, r) := by
  unfold takeP
  rw [show hd (c :: r) = c from rfl, if_pos (by simpa using h)]
  rfl
theorem leafP_of {c : Tok} {k : Int} (h : c.kind = 0 ∧ k = 3 ∨ c.kind = 2 ∧ k = 4) (r : List Tok) : leafP (c :: r) = some (⟨k, c.text, 0, 0, c.pos, []⟩, r) := by
  unfold leafP
  rw [show hd (c :: r) = c from rfl]
  rcases h with ⟨h1, rfl⟩ | ⟨h1, rfl⟩ <;> simp [h1]
/-- The first token of a written value. -/
theorem tkV_head {m : Nat} {t : Tree} (h : valueB m t = true) : ∃ c q, tkV t = c :: q ∧ (t.kind = 3 → c = ⟨0, t.text, 0⟩) ∧ (t.kind ≠ 3 → c.kind ≠ 0) ∧ (c.kind = 3 → c.text = [40]) := by
  rw [tkV_eq]
  by_cases hk : t.kind = 6
  · rw [if_neg (by omega), if_neg (by omega), if_pos hk]
    exact ⟨_, _, rfl, fun e => by omega, fun _ => by decide, fun _ => rfl⟩
  · obtain ⟨hp, hl⟩ := value_leaf h hk
    rcases leaf_cases hl hp with ⟨k3, hf, _⟩ | ⟨k4, hf, _⟩ | ⟨k5, b0, b1, b2, b3, _⟩
    · rw [if_neg (by omega), if_neg (by omega), if_neg (by omega)]
      exact ⟨_, _, rfl, fun _ => rfl, fun e => absurd k3 e, fun e => by cases e⟩
    · rw [if_pos k4]
      exact ⟨_, _, rfl, fun e => by omega, fun _ => by simp, fun e => by cases e⟩
    · rw [if_neg (by omega), if_pos k5]
      exact ⟨_, _, rfl, fun e => by omega, fun _ => by simp, fun e => by cases e⟩
theorem parse_list {n : Nat} (ih : ∀ t, valueB n t = true → ∀ r, (t.kind = 5 → t.dim = 0 → unitP r = ([], r)) → valueP n (tkV t ++ r) = .ok (bare t, r)) :
    ∀ (q : List Tree) (t : Tree) (g : Nat) (s : List UInt8) (c : Tok) (r : List Tok), valueB n t = true → (∀ k ∈ q, valueB n k = true) → q.length < g → signB c s = true → groupL (valueP n) g s (c :: (tkV t ++ (tkT q ++ sg 41 :: r))) = .ok (bareL (t :: q), sg 41 :: r)
  | q, t, 0, s, c, r, _, _, h, _ => by omega
  | [], t, g + 1, s, c, r, ht, _, _, hc => by
    unfold groupL
    rw [skip_of hc]
    dsimp only
    rw [tkT, List.nil_append, ih t ht (sg 41 :: r) fun _ _ => unit_no (show (3 : Nat) ≠ 0 by decide)]
    dsimp only
    rw [if_pos (by rfl)]
    simp [bareL]
  | k :: q, t, g + 1, s, c, r, ht, hq, hg, hc => by
    unfold groupL
    rw [skip_of hc]
    dsimp only
    rw [ih t ht _ fun _ _ => unit_no (by rw [tkT]; exact (show (3 : Nat) ≠ 0 by decide))]
    dsimp only
    rw [if_neg (by rw [tkT]; exact (show ¬ ((false : Bool) = true) by decide))]
    have := parse_list ih q k g [44] (sg 44) r (hq k (by simp)) (fun x hx => hq x (by simp [hx])) (by simpa using hg) (by rfl)
    rw [tkT, List.cons_append, List.append_assoc, this]
    simp [bareL]
theorem parse_value : ∀ (m : Nat) (t : Tree), valueB m t = true → ∀ r, (t.kind = 5 → t.dim = 0 → unitP r = ([], r)) → valueP m (tkV t ++ r) = .ok (bare t, r)
  | m, t, hv, r, hu => by
    by_cases hk : t.kind = 6
    · obtain ⟨n, rfl, h1, h2, h3, h4, h5⟩ := value_group_of hv hk
      rw [tkV_eq, if_neg (by omega), if_neg (by omega), if_pos hk]
      obtain ⟨k, q, hkq⟩ := List.exists_cons_of_ne_nil h2
      rw [bare_eq, hk, h3, h4, h5, hkq]
      rw [hkq] at h1
      rw [tkG, List.cons_append]
      unfold valueP
      rw [show hd (sg 40 :: (tkV k ++ tkT q ++ [sg 41] ++ r)) = sg 40 from rfl, if_pos (by rfl)]
      rw [show tkV k ++ tkT q ++ [sg 41] ++ r = tkV k ++ (tkT q ++ sg 41 :: r) by simp]
      have hlen : q.length ≤ (tkT q).length := by
        have : ∀ q : List Tree, q.length ≤ (tkT q).length := fun q => by
          induction q with
          | nil => simp
          | cons x q ih => simp [tkT]; omega
        exact this q
      rw [parse_list (fun t ht => parse_value n t ht) q k _ [40] (sg 40) r (h1 k (by simp)) (fun x hx => h1 x (by simp [hx])) (by simp; omega) (by rfl)]
      dsimp only
      rw [skip_of (by rfl)]
      rfl
    · obtain ⟨c, q, e1, _, _, e4⟩ := tkV_head hv
      have hs : signB (hd (tkV t ++ r)) [40] = false := by
        rw [e1]
        show signB c [40] = false
        cases hs : signB c [40] with
        | false => rfl
        | true =>
          exfalso
          obtain ⟨hp, hl⟩ := value_leaf hv hk
          have h3 := sign_kind hs
          rw [tkV_eq] at e1
          rcases leaf_cases hl hp with ⟨k3, _⟩ | ⟨k4, _⟩ | ⟨k5, _⟩
          · rw [if_neg (by omega), if_neg (by omega), if_neg (by omega)] at e1
            injection e1 with e1
            rw [← e1] at h3; cases h3
          · rw [if_pos k4] at e1
            injection e1 with e1
            rw [← e1] at h3; cases h3
          · rw [if_neg (by omega), if_pos k5] at e1
            injection e1 with e1
            rw [← e1] at h3; cases h3
      rw [valueP_group m _ hs, tkV_eq]
      obtain ⟨hp, hl⟩ := value_leaf hv hk
      rcases leaf_cases hl hp with ⟨k3, _, z1, z2, z3⟩ | ⟨k4, _, z1, z2, z3⟩ | ⟨k5, b0, b1, b2, b3, z1, z2⟩
      · rw [if_neg (by omega), if_neg (by omega), if_neg (by omega), List.cons_append, List.nil_append, leafP_of (k := 3) (.inl ⟨rfl, rfl⟩)]
        rw [bare_eq, k3, z1, z2, z3]
        rfl
      · rw [if_pos k4, List.cons_append, List.nil_append, leafP_of (k := 4) (.inr ⟨rfl, rfl⟩)]
        rw [bare_eq, k4, z1, z2, z3]
        rfl
      · rw [if_neg (by omega), if_pos k5]
        obtain ⟨e, he⟩ : ∃ e : Nat, t.dim = e := ⟨t.dim.toNat, by omega⟩
        obtain ⟨nm, hb, hf, hz⟩ := base_fine e (by omega)
        have hba := U.back_amount t.num t.dim nm b0 b1 (by rw [he]; exact hb)
        have hbare : bare t = ⟨5, [], t.num, t.dim, 0, []⟩ := by rw [bare_eq, k5, z1, z2]; rfl
        have hun : unitP (tkU t.dim ++ r) = (nm, r) := by
          unfold tkU
          rw [he, hb]
          dsimp only
          by_cases hn : nm = []
          · rw [if_pos hn, List.nil_append, hu k5 (by rw [he]; have := (Eq.mpr hz hn : e = 0); omega), hn]
          · rw [if_neg hn]
            unfold unitP
            rw [show hd ([(⟨0, nm, 0⟩ : Tok)] ++ r) = ⟨0, nm, 0⟩ from rfl, if_pos (by simp [(hf hn).2])]
            rfl
        unfold tkA
        rw [List.cons_append]
        have hlf : leafP (⟨1, Lib.itoa t.num, 0⟩ :: (tkU t.dim ++ r)) = none := rfl
        rw [hlf]
        dsimp only
        unfold amountP
        rw [show ∀ x : List Tok, hd (⟨1, Lib.itoa t.num, 0⟩ :: x) = ⟨1, Lib.itoa t.num, 0⟩ from fun _ => rfl, show ∀ x : List Tok, ((⟨1, Lib.itoa t.num, 0⟩ : Tok) :: x).tail = x from fun _ => rfl, hun]
        dsimp only
        rw [hba, hbare]
        rfl
theorem tkV_pos {m : Nat} {t : Tree} (h : valueB m t = true) : 1 ≤ (tkV t).length := by
  obtain ⟨c, q, e, _⟩ := tkV_head h
  rw [e]; simp
theorem parse_values : ∀ (q : List Tree) (g : Nat) (r : List Tok), (∀ k ∈ q, valueB 40 k = true) → (∀ i (hi : i + 1 < q.length), pairB (q[i]'(by omega)) q[i + 1] = false) → q.length < g → untilL (valueP 40) [59] g (q.flatMap tkV ++ sg 59 :: r) = .ok (bareL q, sg 59 :: r)
  | q, 0, r, _, _, h => by omega
  | [], g + 1, r, _, _, _ => by
    unfold untilL
    rw [List.flatMap_nil, List.nil_append, show hd (sg 59 :: r) = sg 59 from rfl, if_pos (by rfl)]
    simp [bareL]
  | t :: q, g + 1, r, hq, hp, hg => by
    have ht := hq t (by simp)
    obtain ⟨c, x, e1, e2, e3, e4⟩ := tkV_head ht
    have ih := parse_values q g r (fun k hk => hq k (by simp [hk])) (fun i hi => hp (i + 1) (by simpa using hi)) (by simpa using hg)
    have hs : signB c [59] = false := by
      cases hs : signB c [59] with
      | false => rfl
      | true =>
        have h3 := e4 (sign_kind hs)
        unfold signB at hs
        rw [h3] at hs
        simp at hs
    have hv := parse_value 40 t ht (q.flatMap tkV ++ sg 59 :: r) fun k5 d0 => by
      cases q with
      | nil => exact unit_no (show (3 : Nat) ≠ 0 by decide)
      | cons k q =>
        obtain ⟨c2, x2, f1, f2, f3, _⟩ := tkV_head (hq k (by simp))
        rw [List.flatMap_cons, f1, List.append_assoc, List.cons_append]
        refine unit_word fun h0 => ?_
        by_cases k3 : k.kind = 3
        · have hpp := hp 0 (by simp)
          unfold pairB at hpp
          simp only [List.getElem_cons_zero, List.getElem_cons_succ] at hpp
          rw [f2 k3]
          simpa [k3, k5, d0] using hpp
        · exact absurd h0 (f3 k3)
    unfold untilL
    rw [List.flatMap_cons, List.append_assoc]
    have hhd : hd (tkV t ++ (q.flatMap tkV ++ sg 59 :: r)) = c := by rw [e1]; rfl
    rw [hhd, hs, if_neg (by simp), hv]
    dsimp only
    rw [ih]
    simp [bareL]
theorem parse_prop {t : Tree} (h : propB t = true) (r : List Tok) : propP (tkP t ++ r) = .ok (bare t, r) := by
  obtain ⟨h1, _, h3, h4, hk, hp⟩ := prop_facts h
  unfold propP tkP
  rw [List.cons_append, take_of (c := ⟨0, t.text, 0⟩) (k := 0) rfl]
  dsimp only
  have hlen : ∀ q : List Tree, (∀ k ∈ q, valueB 40 k = true) → q.length ≤ (q.flatMap tkV).length := fun q => by
    induction q with
    | nil => intro _; simp
    | cons x q ih =>
      intro hq
      have := ih fun k hk => hq k (by simp [hk])
      have := tkV_pos (hq x (by simp))
      rw [List.flatMap_cons, List.length_append, List.length_cons]
      omega
  have hl := hlen t.kids hk
  rw [show t.kids.flatMap tkV ++ [sg 59] ++ r = t.kids.flatMap tkV ++ sg 59 :: r by simp]
  rw [parse_values t.kids _ r hk hp (by rw [List.length_append]; omega)]
  dsimp only
  rw [skip_of (by rfl)]
  dsimp only
  rw [bare_eq, h1, h3, h4]
  rfl
theorem parse_props : ∀ (q : List Tree) (g : Nat) (r : List Tok), (∀ k ∈ q, propB k = true) → q.length < g → untilL propP [125] g (q.flatMap tkP ++ sg 125 :: r) = .ok (bareL q, sg 125 :: r)
  | q, 0, r, _, h => by omega
  | [], g + 1, r, _, _ => by
    unfold untilL
    rw [List.flatMap_nil, List.nil_append, show hd (sg 125 :: r) = sg 125 from rfl, if_pos (by rfl)]
    simp [bareL]
  | t :: q, g + 1, r, hq, hg => by
    have ih := parse_props q g r (fun k hk => hq k (by simp [hk])) (by simpa using hg)
    unfold untilL
    rw [List.flatMap_cons, List.append_assoc]
    have hhd : signB (hd (tkP t ++ (q.flatMap tkP ++ sg 125 :: r))) [125] = false := rfl
    rw [hhd, if_neg (by simp), parse_prop (hq t (by simp))]
    dsimp only
    rw [ih]
    simp [bareL]
theorem tkV_word {t : Tree} (h : valueB 40 t = true) (hw : wordB t = true) : ∃ c k, tkV t = [c] ∧ (c.kind = 0 ∧ k = 3 ∨ c.kind = 2 ∧ k = 4) ∧ bare t = ⟨k, c.text, 0, 0, c.pos, []⟩ := by
  unfold wordB at hw
  simp only [Bool.or_eq_true, beq_iff_eq] at hw
  obtain ⟨hp, hl⟩ := value_leaf h (by omega)
  rw [tkV_eq]
  rcases leaf_cases hl hp with ⟨k3, _, z1, z2, z3⟩ | ⟨k4, _, z1, z2, z3⟩ | ⟨k5, _⟩
  · rw [if_neg (by omega), if_neg (by omega), if_neg (by omega)]
    exact ⟨_, 3, rfl, .inl ⟨rfl, rfl⟩, by rw [bare_eq, k3, z1, z2, z3]; rfl⟩
  · rw [if_pos k4]
    exact ⟨_, 4, rfl, .inr ⟨rfl, rfl⟩, by rw [bare_eq, k4, z1, z2, z3]; rfl⟩
  · omega
theorem parse_words : ∀ (q : List Tree) (g : Nat) (r : List Tok), (∀ k ∈ q, valueB 40 k = true ∧ wordB k = true) → q.length < g → wordsL g (q.flatMap tkV ++ sg 123 :: r) = (bareL q, sg 123 :: r)
  | q, 0, r, _, h => by omega
  | [], g + 1, r, _, _ => by
    unfold wordsL
    rw [List.flatMap_nil, List.nil_append, show leafP (sg 123 :: r) = none from rfl]
    simp [bareL]
  | t :: q, g + 1, r, hq, hg => by
    obtain ⟨c, k, e1, e2, e3⟩ := tkV_word (hq t (by simp)).1 (hq t (by simp)).2
    have ih := parse_words q g r (fun k hk => hq k (by simp [hk])) (by simpa using hg)
    unfold wordsL
    rw [List.flatMap_cons, e1, List.append_assoc, List.cons_append, List.nil_append, leafP_of e2]
    dsimp only
    rw [ih]
    simp [bareL, e3]
theorem parse_decl {t : Tree} (h : declB t = true) (r : List Tok) : declP (tkD t ++ r) = .ok (bare t, r) := by
  obtain ⟨h1, _, h3, h4, hw, hp⟩ := decl_facts h
  unfold declP tkD
  rw [List.cons_append, take_of (c := ⟨0, t.text, 0⟩) (k := 0) rfl]
  dsimp only
  have hl1 : ∀ q : List Tree, (∀ k ∈ q, valueB 40 k = true ∧ wordB k = true) → q.length ≤ (q.flatMap tkV).length := fun q => by
    induction q with
    | nil => intro _; simp
    | cons x q ih =>
      intro hq
      have := ih fun k hk => hq k (by simp [hk])
      have := tkV_pos (hq x (by simp)).1
      rw [List.flatMap_cons, List.length_append, List.length_cons]
      omega
  have hl2 : ∀ q : List Tree, q.length ≤ (q.flatMap tkP).length := fun q => by
    induction q with
    | nil => simp
    | cons x q ih =>
      rw [List.flatMap_cons, List.length_append, List.length_cons]
      unfold tkP
      rw [List.length_cons]
      unfold tkP at ih
      omega
  have g1 := hl1 _ hw
  have g2 := hl2 (t.kids.drop (words t.kids))
  have hre : (t.kids.take (words t.kids)).flatMap tkV ++ (sg 123 :: ((t.kids.drop (words t.kids)).flatMap tkP ++ [sg 125])) ++ r = (t.kids.take (words t.kids)).flatMap tkV ++ sg 123 :: ((t.kids.drop (words t.kids)).flatMap tkP ++ sg 125 :: r) := by simp
  rw [hre, parse_words _ _ _ hw (by rw [List.length_append]; omega)]
  dsimp only
  rw [skip_of (by rfl)]
  dsimp only
  rw [parse_props _ _ r hp (by rw [List.length_append]; omega)]
  dsimp only
  rw [skip_of (by rfl)]
  dsimp only
  rw [bare_eq, h1, h3, h4, ← bareL_app, List.take_append_drop]
  rfl
theorem parse_file : ∀ (q : List Tree) (g : Nat), (∀ k ∈ q, declB k = true) → q.length < g → fileL g (q.flatMap tkD ++ [⟨4, [], 0⟩]) = .ok (bareL q)
  | q, 0, _, h => by omega
  | [], g + 1, _, _ => by
    unfold fileL
    rw [List.flatMap_nil, List.nil_append]
    simp [hd, bareL]
  | t :: q, g + 1, hq, hg => by
    have ih := parse_file q g (fun k hk => hq k (by simp [hk])) (by simpa using hg)
    unfold fileL
    rw [List.flatMap_cons, List.append_assoc]
    have hhd : (hd (tkD t ++ (q.flatMap tkD ++ [⟨4, [], 0⟩]))).kind = 0 := rfl
    rw [hhd, if_neg (by decide), parse_decl (hq t (by simp))]
    dsimp only
    rw [ih]
    simp [bareL]
theorem right_facts {t : Tree} (h : rightB t = true) : bare t = ⟨0, [], 0, 0, 0, bareL t.kids⟩ ∧ ∀ k ∈ t.kids, declB k = true := by
  unfold rightB at h
  simp only [Bool.and_eq_true, beq_iff_eq, List.all_eq_true] at h
  obtain ⟨h1, h2, h3⟩ := h
  unfold plainB at h2
  simp only [Bool.and_eq_true, Bool.or_eq_true, bne_iff_ne, beq_iff_eq] at h2
  refine ⟨?_, h3⟩
  have ht : t.text = [] := by
    rcases h2.1.2 with (((h | h) | h) | h) | h
    · omega
    · omega
    · omega
    · omega
    · exact h
  have hnd : t.num = 0 ∧ t.dim = 0 := by omega
  rw [bare_eq, h1, ht, hnd.1, hnd.2]
end Tr

/-- Sources with the same tokens, apart from offsets. -/
theorem parseS_same {s s' : List UInt8} (h : (scanR s).2.1 = 0) (h' : (scanR s').2.1 = 0) (he : (scanR s).1.map Tr.flat = (scanR s').1.map Tr.flat) : Tr.bare (parseS s).1 = Tr.bare (parseS s').1 ∧ (parseS s).2.1 = (parseS s').2.1 := by
  rw [parseS_ok h, parseS_ok h']
  have h1 := Tr.parse_flat (scanR s).1
  have h2 := Tr.parse_flat (scanR s').1
  rw [he, h2] at h1
  injection h1 with h1 h3
  injection h3 with h3 _
  exact ⟨h1.symm, h3.symm⟩
theorem scanR_lexes {s : List UInt8} {l : List L.Tok} (hl : s.length ≤ 65536) (h : L.Lexes s l) : (scanR s).2.1 = 0 ∧ (scanR s).1.map Tr.flat = l ++ [⟨4, [], 0⟩] := by
  have h0 := h 0
  rw [← L.scan_toks] at h0
  rw [scanR_of hl (Prod.ext rfl h0.1)]
  exact ⟨rfl, by rw [List.map_append, h0.2]; rfl⟩
/-- What is written of a right tree is read again. -/
theorem write_parse {t : Tr.Tree} (h : Tr.rightB t = true) (hl : (Tr.wrF t).length ≤ 65536) : (parseS (Tr.wrF t)).2.1 = 0 ∧ Tr.bare (parseS (Tr.wrF t)).1 = Tr.bare t := by
  obtain ⟨hb, hk⟩ := Tr.right_facts h
  obtain ⟨h1, h2⟩ := scanR_lexes hl (Tr.lexes_file t.kids hk)
  rw [parseS_ok h1]
  have h3 := Tr.parse_flat (scanR (Tr.wrF t)).1
  rw [h2] at h3
  have h4 : Tr.parseP (t.kids.flatMap Tr.tkD ++ [⟨4, [], 0⟩]) = (⟨0, [], 0, 0, 0, Tr.bareL t.kids⟩, 0, 0) := by
    unfold Tr.parseP
    have hlen : ∀ q : List Tr.Tree, q.length ≤ (q.flatMap Tr.tkD).length := fun q => by
      induction q with
      | nil => simp
      | cons x q ih =>
        rw [List.flatMap_cons, List.length_append, List.length_cons]
        unfold Tr.tkD
        rw [List.length_cons]
        unfold Tr.tkD at ih
        omega
    have := hlen t.kids
    rw [Tr.parse_file t.kids _ hk (by rw [List.length_append]; omega)]
  rw [h4] at h3
  injection h3 with h3 h5
  injection h5 with h5 _
  exact ⟨h5.symm, by rw [hb]; exact h3.symm⟩
end Go.Proofs.YtooajmbpncmgjaaGreatDoor
namespace Go.Proofs.YtooajmbpncmgjaaGreatDoor
open L (Tok)
namespace Tr
def AllFine (ts : List Tok) : Prop := ∀ t ∈ ts, t.kind ≠ 4 → L.Fine t.kind t.text
theorem AllFine.of {ts r : List Tok} (h : AllFine ts) (hs : r <:+ ts) : AllFine r := fun t ht => h t (hs.subset ht)
theorem AllFine.tail {t : Tok} {r : List Tok} (h : AllFine (t :: r)) : AllFine r := h.of (List.suffix_cons _ _)

/-- An amount that exists. -/
theorem amountU_facts {x nm : List UInt8} {n d : Int} (h : U.amountU x nm = (n, d, 0)) : 0 ≤ n ∧ n ≤ 1125899906842624 ∧ 0 ≤ d ∧ d ≤ 6 ∧ (d = 0 → nm = []) := by
  unfold U.amountU at h
  split at h
  · simp at h
  · split at h
    · rename_i dim num den hu
      unfold U.amountM U.amountT at h
      split at h
      · rename_i hc
        injection h with h1 h2
        injection h2 with h2 _
        have hd : dim ≤ 6 ∧ (dim = 0 → nm = []) := by
          unfold U.unitOf at hu
          obtain ⟨u, hf, he⟩ := Option.map_eq_some_iff.1 hu
          have q : ∀ u ∈ U.unitTab, u.2.1 ≤ 6 ∧ (u.2.1 = 0 → u.1 = []) := by decide +kernel
          have hq := q u (List.mem_of_find?_eq_some hf)
          have hn := List.find?_some hf
          have hn : u.1 = nm := by simpa using hn
          rw [he, hn] at hq
          exact hq
        have e1 : 0 ≤ n := by rw [← h1]; exact Int.natCast_nonneg _
        have e2 := Int.ofNat_le.2 hc.2
        rw [h1] at e2
        have e2 : n ≤ 1125899906842624 := e2
        exact ⟨e1, e2, by omega, by omega, fun e => hd.2 (by omega)⟩
      · simp at h
    · simp at h

theorem word_value (f : Nat) {t : Tok} {k : Int} (h : t.kind = 0 ∧ k = 3 ∨ t.kind = 2 ∧ k = 4) (hf : L.Fine t.kind t.text) (p : Int) : valueB f ⟨k, t.text, 0, 0, p, []⟩ = true := by
  have hp : plainB ⟨k, t.text, 0, 0, p, []⟩ = true := by unfold plainB; rcases h with ⟨_, rfl⟩ | ⟨_, rfl⟩ <;> simp
  have hl : leafB ⟨k, t.text, 0, 0, p, []⟩ = true := by
    unfold leafB
    rcases h with ⟨h1, rfl⟩ | ⟨h1, rfl⟩
    · rw [h1] at hf
      simpa using fine_one (k := 0) (.inl rfl) hf
    · rw [h1] at hf
      simpa using fine_one (k := 2) (.inr rfl) hf
  cases f with
  | zero => unfold valueB; rw [hp, hl]; rfl
  | succ f =>
    unfold valueB
    rw [hp, hl, if_neg (by rcases h with ⟨_, rfl⟩ | ⟨_, rfl⟩ <;> simp)]
    rfl
theorem amount_value (f : Nat) {n d p : Int} (h0 : 0 ≤ n) (h1 : n ≤ 1125899906842624) (h2 : 0 ≤ d) (h3 : d ≤ 6) : valueB f ⟨5, [], n, d, p, []⟩ = true := by
  have hp : plainB ⟨5, [], n, d, p, []⟩ = true := by unfold plainB; simp
  have hl : leafB ⟨5, [], n, d, p, []⟩ = true := by unfold leafB; simp; omega
  cases f with
  | zero => unfold valueB; rw [hp, hl]; rfl
  | succ f => unfold valueB; rw [hp, hl, if_neg (by simp)]; rfl
theorem prop_of {x : List UInt8} {p : Int} {l : List Tree} (hx : L.Fine 0 x) (hl : ∀ k ∈ l, valueB 40 k = true) (hp : ∀ i (hi : i + 1 < l.length), pairB (l[i]'(by omega)) l[i + 1] = false) : propB ⟨2, x, 0, 0, p, l⟩ = true := by
  unfold propB
  simp only [Bool.and_eq_true, beq_self_eq_true, true_and, List.all_eq_true, List.mem_range]
  refine ⟨by unfold plainB; simp, fine_one (.inl rfl) hx, fun i hi => ?_⟩
  unfold stepB
  rw [List.getElem?_eq_getElem hi]
  simp only [Bool.and_eq_true, Bool.or_eq_true]
  refine ⟨hl _ (List.getElem_mem hi), ?_⟩
  cases i with
  | zero => exact .inl rfl
  | succ i =>
    right
    rw [Nat.add_sub_cancel, List.getElem?_eq_getElem (by omega : i < l.length)]
    simpa using hp i hi
theorem prop_kind {t : Tree} (h : propB t = true) : t.kind = 2 := (prop_facts h).1
theorem words_app : ∀ (l1 l2 : List Tree), (∀ k ∈ l1, wordB k = true) → (∀ k ∈ l2, k.kind = 2) → words (l1 ++ l2) = l1.length
  | [], [], _, _ => rfl
  | [], t :: l2, _, h => by unfold words; simp [h t (by simp)]
  | t :: l1, l2, h, h2 => by
    have ih := words_app l1 l2 (fun k hk => h k (by simp [hk])) h2
    have ht : t.kind ≠ 2 := by
      have := h t (by simp)
      unfold wordB at this
      simp only [Bool.or_eq_true, beq_iff_eq] at this
      omega
    unfold words at ih ⊢
    rw [List.cons_append, List.takeWhile_cons, if_pos (by simpa using ht), List.length_cons, ih, List.length_cons]
theorem decl_of {x : List UInt8} {p : Int} {l1 l2 : List Tree} (hx : L.Fine 0 x) (h1 : ∀ k ∈ l1, valueB 40 k = true ∧ wordB k = true) (h2 : ∀ k ∈ l2, propB k = true) : declB ⟨1, x, 0, 0, p, l1 ++ l2⟩ = true := by
  unfold declB
  simp only [Bool.and_eq_true, beq_self_eq_true, true_and, List.all_eq_true, List.mem_range]
  refine ⟨by unfold plainB; simp, fine_one (.inl rfl) hx, fun i hi => ?_⟩
  unfold stepD
  rw [List.getElem?_eq_getElem hi]
  dsimp only
  rcases Nat.lt_or_ge i l1.length with hlt | hge
  · have hw : wordsTo (l1 ++ l2) (i + 1) = true := by
      unfold wordsTo
      rw [List.all_eq_true]
      intro k hk
      rw [List.take_append_of_le_length (by omega)] at hk
      exact (h1 k (List.mem_of_mem_take hk)).2
    rw [hw, if_pos rfl, List.getElem_append_left hlt]
    exact (h1 _ (List.getElem_mem hlt)).1
  · have hi2 : i - l1.length < l2.length := by rw [List.length_append] at hi; omega
    have hk := h2 _ (List.getElem_mem hi2)
    have hw : wordsTo (l1 ++ l2) (i + 1) = false := by
      rw [wordsTo_succ _ _ hi, List.getElem_append_right hge]
      have := prop_kind hk
      unfold wordB
      simp [this]
    rw [hw, if_neg (by simp), List.getElem_append_right hge]
    exact hk

/-- What is right of what is parsed. -/
def RightAt : NT → List Tok → List Tree → List Tok → Prop
  | .val f, ts, l, r => ∃ v, l = [v] ∧ valueB f v = true ∧ (v.kind = 3 → (hd ts).kind = 0 ∧ v.text = (hd ts).text) ∧ (v.kind = 5 → v.dim = 0 → (hd r).kind = 0 → known (hd r).text = false)
  | .grp f, _, l, _ => (∀ v ∈ l, valueB f v = true) ∧ l ≠ []
  | .vals, ts, l, _ => (∀ v ∈ l, valueB 40 v = true) ∧ (∀ i (hi : i + 1 < l.length), pairB (l[i]'(by omega)) l[i + 1] = false) ∧ ∀ v q, l = v :: q → v.kind = 3 → (hd ts).kind = 0 ∧ v.text = (hd ts).text
  | .prop, _, l, _ => ∀ v ∈ l, propB v = true
  | .props, _, l, _ => ∀ v ∈ l, propB v = true
  | .words, _, l, _ => ∀ v ∈ l, valueB 40 v = true ∧ wordB v = true
  | .decl, _, l, _ => ∀ v ∈ l, declB v = true
  | .file, _, l, _ => ∀ v ∈ l, declB v = true
theorem G.right {n : NT} {ts r : List Tok} {l : List Tree} (h : G n ts l r) : AllFine ts → RightAt n ts l r := by
  induction h with
  | word f t r h =>
    intro hf
    exact ⟨_, rfl, word_value f (.inl ⟨h, rfl⟩) (hf t (by simp) (by omega)) _, fun _ => ⟨h, rfl⟩, fun e => by cases e⟩
  | text f t r h =>
    intro hf
    exact ⟨_, rfl, word_value f (.inr ⟨h, rfl⟩) (hf t (by simp) (by omega)) _, fun e => (by cases e), fun e => (by cases e)⟩
  | amount f t r n d h ha =>
    intro hf
    obtain ⟨a1, a2, a3, a4, a5⟩ := amountU_facts ha
    refine ⟨_, rfl, amount_value f a1 a2 a3 a4, fun e => (by cases e), fun _ hd0 hk => ?_⟩
    have hn := a5 hd0
    unfold unitP at hn hk ⊢
    by_cases hc : ((hd r).kind == 0 && known (hd r).text) = true
    · exfalso
      rw [if_pos hc] at hn
      simp only [Bool.and_eq_true, beq_iff_eq] at hc
      obtain ⟨q, hq, _⟩ := hd_kind hc.1 (by decide)
      have hfine := hf.tail (hd r) (by rw [hq]; exact List.mem_cons_self) (by omega)
      rw [hc.1] at hfine
      exact L.okL_ne hfine.2 hn
    · rw [if_neg hc] at hk ⊢
      simp only [Bool.and_eq_true, beq_iff_eq, not_and] at hc
      simpa using hc hk
  | group f t c r r' l h hl hc ih =>
    intro hf
    obtain ⟨h1, h2⟩ := ih hf.tail
    refine ⟨_, rfl, ?_, fun e => (by cases e), fun e => (by cases e)⟩
    unfold valueB
    rw [if_pos (by rfl)]
    simp only [Bool.and_eq_true, List.all_eq_true, Bool.not_eq_true', List.isEmpty_eq_false_iff]
    exact ⟨by unfold plainB; simp, h1, h2⟩
  | one f ts r v h ih =>
    intro hf
    obtain ⟨u, e, h1, _⟩ := ih hf
    injection e with e
    subst e
    exact ⟨fun x hx => by simp at hx; subst hx; exact h1, by simp⟩
  | comma f ts r r' c v l h hc hl ih1 ih2 =>
    intro hf
    obtain ⟨u, e, h1, _⟩ := ih1 hf
    injection e with e
    subst e
    obtain ⟨h2, _⟩ := ih2 ((hf.of h.suffix).tail)
    exact ⟨fun x hx => by rcases List.mem_cons.1 hx with rfl | hx; exact h1; exact h2 x hx, by simp⟩
  | vnil ts => intro _; exact ⟨fun v hv => (by cases hv), fun i hi => absurd hi (Nat.not_lt_zero _), fun v q e => (by cases e)⟩
  | vcons ts r r' v l h hl ih1 ih2 =>
    intro hf
    obtain ⟨u, e, h1, h3, h5⟩ := ih1 hf
    injection e with e
    subst e
    obtain ⟨b1, b2, b3⟩ := ih2 (hf.of h.suffix)
    refine ⟨fun x hx => by rcases List.mem_cons.1 hx with rfl | hx; exact h1; exact b1 x hx, fun i hi => ?_, fun w q e => by injection e with e1 _; subst e1; exact h3⟩
    cases i with
    | zero =>
      cases l with
      | nil => simp at hi
      | cons k q =>
        simp only [List.getElem_cons_zero, List.getElem_cons_succ]
        unfold pairB
        by_cases k3 : k.kind = 3
        · obtain ⟨c1, c2⟩ := b3 k q rfl k3
          by_cases hv : v.kind = 5 ∧ v.dim = 0
          · rw [c2, h5 hv.1 hv.2 c1]; simp
          · have : (v.kind == 5 && v.dim == 0) = false := by
              cases hb : (v.kind == 5 && v.dim == 0) with
              | false => rfl
              | true => simp at hb; exact absurd hb hv
            rw [this]; simp
        · rw [show (k.kind == 3) = false by simpa using k3]; simp
    | succ i =>
      simp only [List.getElem_cons_succ]
      exact b2 i (by simpa using hi)
  | prop t c r r' l h hl hc ih =>
    intro hf
    obtain ⟨b1, b2, _⟩ := ih hf.tail
    have ht := hf t (by simp) (by omega)
    rw [h] at ht
    exact fun v hv => by simp at hv; subst hv; exact prop_of ht b1 b2
  | pnil ts => intro _ v hv; cases hv
  | pcons ts r r' v l h hl ih1 ih2 =>
    intro hf x hx
    rcases List.mem_cons.1 hx with rfl | hx
    · exact ih1 hf _ (by simp)
    · exact ih2 (hf.of h.suffix) x hx
  | wnil ts => intro _ v hv; cases hv
  | wcons t r r' k l h hl ih =>
    intro hf x hx
    rcases List.mem_cons.1 hx with rfl | hx
    · exact ⟨word_value 40 h (hf t (by simp) (by omega)) _, by unfold wordB; rcases h with ⟨_, rfl⟩ | ⟨_, rfl⟩ <;> simp⟩
    · exact ih hf.tail x hx
  | decl t c e r r1 r2 l1 l2 h hw hc hp he ih1 ih2 =>
    intro hf
    have ht := hf t (by simp) (by omega)
    rw [h] at ht
    have b1 := ih1 hf.tail
    have b2 := ih2 ((hf.tail.of hw.suffix).tail)
    exact fun v hv => by simp at hv; subst hv; exact decl_of ht b1 b2
  | fnil ts => intro _ v hv; cases hv
  | fcons ts r r' v l h hl ih1 ih2 =>
    intro hf x hx
    rcases List.mem_cons.1 hx with rfl | hx
    · exact ih1 hf _ (by simp)
    · exact ih2 (hf.of h.suffix) x hx

/-! ### Sizes -/
theorem weight_cons (t : Tok) (r : List Tok) : L.weight (t :: r) = (L.spell t.kind t.text).length + L.weight r := by simp [L.weight]
theorem weight_unit (r : List Tok) : L.weight (unitP r).2 ≤ L.weight r := by
  unfold unitP
  split
  · cases r with
    | nil => simp
    | cons c r => rw [weight_cons]; simp
  · exact Nat.le_refl _
theorem fine_len {k : Nat} {x : List UInt8} (h : L.Fine k x) : 1 ≤ (L.spell k x).length := List.length_pos_iff.2 (L.okL_ne h.2)
theorem sign_weight {t : Tok} {s : List UInt8} (h : signB t s = true) : (L.spell t.kind t.text).length = s.length := by
  unfold signB at h
  simp at h
  rw [h.1, h.2]
  rfl
theorem writeU_small (n d : Int) : (U.writeU n d).length ≤ 29 := by
  unfold U.writeU
  split
  · simp
  · rename_i h
    have h1 := itoa_len n (by omega) (by omega)
    split
    · rename_i nm hb
      have h2 := U.base_len d nm hb
      split
      · omega
      · simp; omega
    · simp
def sizeAt : NT → List Tree → Nat
  | .val _, l => (l.map fun v => (wrV v).length + 1).sum
  | .grp _, l => (wrG l).length + 1
  | .vals, l => (l.flatMap wrS).length
  | .prop, l => (l.flatMap wrP).length
  | .props, l => (l.flatMap wrP).length
  | .words, l => (l.flatMap wrS).length
  | .decl, l => (l.flatMap wrD).length
  | .file, l => (l.flatMap wrD).length
theorem G.short2 {n : NT} {ts r : List Tok} {l : List Tree} (h : G n ts l r) : AllFine ts → sizeAt n l + 31 * L.weight r ≤ 31 * L.weight ts := by
  induction h with
  | word f t r h =>
    intro hf
    have ht := hf t (by simp) (by omega)
    have hl := fine_len ht
    rw [weight_cons, Nat.mul_add]
    rw [h] at hl ⊢
    simp [sizeAt, wrV, L.spell] at hl ⊢
    omega
  | text f t r h =>
    intro hf
    rw [weight_cons, Nat.mul_add, h]
    simp [sizeAt, wrV, L.spell]
    omega
  | amount f t r n d h ha =>
    intro hf
    have ht := hf t (by simp) (by omega)
    have hl := fine_len ht
    have h1 := writeU_small n d
    have h2 := weight_unit r
    rw [weight_cons, Nat.mul_add]
    simp [sizeAt, wrV]
    omega
  | group f t c r r' l h hl hc ih =>
    intro hf
    have h1 := ih hf.tail
    have s1 := sign_weight h
    have s2 := sign_weight hc
    rw [weight_cons] at h1 ⊢
    rw [s1]
    rw [s2] at h1
    simp only [sizeAt, wrV, List.map_cons, List.map_nil, List.sum_cons, List.sum_nil, List.length_cons, List.length_nil] at h1 ⊢
    simp
    omega
  | one f ts r v h ih =>
    intro hf
    have h1 := ih hf
    simp [sizeAt, wrG, wrT] at h1 ⊢
    omega
  | comma f ts r r' c v l h hc hl ih1 ih2 =>
    intro hf
    have h1 := ih1 hf
    have h2 := ih2 ((hf.of h.suffix).tail)
    have s2 := sign_weight hc
    rw [weight_cons, s2] at h1
    have h3 : (wrT l).length ≤ (wrG l).length + 2 := by
      cases l with
      | nil => simp [wrT]
      | cons x q => simp [wrT, wrG]
    simp only [sizeAt, wrG, List.map_cons, List.map_nil, List.sum_cons, List.sum_nil, List.length_cons, List.length_nil, List.length_append] at h1 h2 ⊢
    omega
  | vnil ts => intro _; simp [sizeAt]
  | vcons ts r r' v l h hl ih1 ih2 =>
    intro hf
    have h1 := ih1 hf
    have h2 := ih2 (hf.of h.suffix)
    simp only [sizeAt, List.flatMap_cons, wrS, List.map_cons, List.map_nil, List.sum_cons, List.sum_nil, List.length_cons, List.length_append] at h1 h2 ⊢
    omega
  | prop t c r r' l h hl hc ih =>
    intro hf
    have h1 := ih hf.tail
    have ht := hf t (by simp) (by omega)
    have hl := fine_len ht
    have s2 := sign_weight hc
    rw [weight_cons] at h1 ⊢
    rw [s2] at h1
    rw [h] at hl ⊢
    have s3 : (L.spell 0 t.text).length = t.text.length := rfl
    rw [s3] at hl ⊢
    have s4 := wrP_size ⟨2, t.text, 0, 0, t.pos, l⟩
    simp only [sizeAt, List.flatMap_cons, List.flatMap_nil, List.length_append, List.length_nil, List.length_cons] at h1 s4 ⊢
    omega
  | pnil ts => intro _; simp [sizeAt]
  | pcons ts r r' v l h hl ih1 ih2 =>
    intro hf
    have h1 := ih1 hf
    have h2 := ih2 (hf.of h.suffix)
    simp only [sizeAt, List.flatMap_cons, List.flatMap_nil, List.length_append, List.length_nil] at h1 h2 ⊢
    omega
  | wnil ts => intro _; simp [sizeAt]
  | wcons t r r' k l h hl ih =>
    intro hf
    have h2 := ih hf.tail
    have ht := hf t (by simp) (by omega)
    have hl := fine_len ht
    rw [weight_cons]
    have h3 : (wrV ⟨k, t.text, 0, 0, t.pos, []⟩).length = (L.spell t.kind t.text).length := by
      rcases h with ⟨h1, rfl⟩ | ⟨h1, rfl⟩ <;> simp [wrV, L.spell, h1]
    simp only [sizeAt, List.flatMap_cons, wrS, List.length_cons, List.length_append] at h2 ⊢
    omega
  | decl t c e r r1 r2 l1 l2 h hw hc hp he ih1 ih2 =>
    intro hf
    have h1 := ih1 hf.tail
    have h2 := ih2 ((hf.tail.of hw.suffix).tail)
    have ht := hf t (by simp) (by omega)
    have hl := fine_len ht
    have s1 := sign_weight hc
    have s2 := sign_weight he
    have b1 := hw.right hf.tail
    have b2 := hp.right ((hf.tail.of hw.suffix).tail)
    have hwd := words_app l1 l2 (fun k hk => (b1 k hk).2) (fun k hk => prop_kind (b2 k hk))
    have s4 := wrD_size ⟨1, t.text, 0, 0, t.pos, l1 ++ l2⟩
    dsimp only at s4
    rw [hwd, List.take_left', List.drop_left'] at s4
    rw [weight_cons] at h1 h2 ⊢
    rw [s1] at h1
    rw [s2] at h2
    rw [h] at hl ⊢
    have s3 : (L.spell 0 t.text).length = t.text.length := rfl
    rw [s3] at hl ⊢
    simp only [sizeAt, List.flatMap_cons, List.flatMap_nil, List.length_append, List.length_nil, List.length_cons] at h1 h2 s4 ⊢
    omega
    · rfl
    · rfl
  | fnil ts => intro _; simp [sizeAt]
  | fcons ts r r' v l h hl ih1 ih2 =>
    intro hf
    have h1 := ih1 hf
    have h2 := ih2 (hf.of h.suffix)
    simp only [sizeAt, List.flatMap_cons, List.flatMap_nil, List.length_append, List.length_nil] at h1 h2 ⊢
    omega
end Tr
theorem scanR_fine {s : List UInt8} (h : (scanR s).2.1 = 0) : Tr.AllFine (scanR s).1 ∧ L.weight (scanR s).1 ≤ s.length := by
  obtain ⟨_, _, h3, _⟩ := scanR_ok h
  have hat := (L.scan_at s).1
  have hw := L.scan_weight s
  rw [h3]
  refine ⟨fun t ht hk => ?_, ?_⟩
  · rcases List.mem_append.1 ht with ht | ht
    · exact L.fine_of (hat t ht)
    · simp at ht
      subst ht
      exact absurd rfl hk
  · unfold L.weight at hw ⊢
    rw [List.map_append, List.sum_append]
    have e : (List.map (fun t : Tok => (L.spell t.kind t.text).length) [⟨4, [], s.length⟩]).sum = 0 := rfl
    omega
/-- What Parse returns is right, and its written form is not much longer than the source. -/
theorem parseS_right {s : List UInt8} (h : (parseS s).2.1 = 0) : Tr.rightB (parseS s).1 = true ∧ (Tr.wrF (parseS s).1).length ≤ 31 * s.length := by
  obtain ⟨hs, l, r, he, hg⟩ := parseS_yes h
  obtain ⟨hf, hw⟩ := scanR_fine hs
  have h1 := hg.right hf
  have h2 := hg.short2 hf
  rw [he]
  constructor
  · unfold Tr.rightB
    simp only [beq_self_eq_true, Bool.true_and, Bool.and_eq_true, List.all_eq_true]
    exact ⟨by unfold Tr.plainB; simp, h1⟩
  · show (l.flatMap Tr.wrD).length ≤ _
    have h3 : Tr.sizeAt .file l = (l.flatMap Tr.wrD).length := rfl
    omega
/-- The tokens of a source as they are written. -/
theorem lexwrite_join {s : List UInt8} (hs : (scanR s).2.1 = 0) : L.writeL (scanR s).1 = Lib.join ((L.scanL s).1.map fun t => L.spell t.kind t.text) [32] := by
  obtain ⟨_, hn, hT, _⟩ := scanR_ok hs
  have hk : ∀ t ∈ (L.scanL s).1, t.kind ≤ 3 := fun t ht => (toksR_each _ _ _ t ht).1
  rw [hT]
  unfold L.writeL L.textsW
  rw [List.filterMap_append]
  have e1 : List.filterMap L.textW [⟨4, [], s.length⟩] = [] := by simp [L.textW]
  rw [e1, List.append_nil]
  congr 1
  have q : ∀ l : List L.Tok, (∀ t ∈ l, t.kind ≤ 3) → l.filterMap L.textW = l.map fun t => L.spell t.kind t.text := fun l => by
    induction l with
    | nil => intro _; rfl
    | cons t r ih =>
      intro hk
      have ht := hk t (by simp)
      have e : L.textW t = some (L.spell t.kind t.text) := by
        unfold L.textW L.spell
        have : t.kind = 0 ∨ t.kind = 1 ∨ t.kind = 2 ∨ t.kind = 3 := by omega
        rcases this with e | e | e | e <;> simp [e]
      rw [List.filterMap_cons, e, ih fun x hx => hk x (by simp [hx]), List.map_cons]
  exact q _ hk
theorem lexwrite_len0 {s : List UInt8} (hs : (scanR s).2.1 = 0) : (L.writeL (scanR s).1).length ≤ 2 * s.length := by
  have htx := lexwrite_join hs
  have hat := (L.scan_at s).1
  have hw := L.scan_weight s
  rw [htx]
  have hfine : ∀ t ∈ (L.scanL s).1, 1 ≤ (L.spell t.kind t.text).length := fun t ht => Tr.fine_len (L.fine_of (hat t ht))
  have q : ∀ l : List L.Tok, (∀ t ∈ l, 1 ≤ (L.spell t.kind t.text).length) → (Lib.joinTail [32] (l.map fun t => L.spell t.kind t.text)).length ≤ 2 * L.weight l := fun l => by
    induction l with
    | nil => intro _; simp [Lib.joinTail]
    | cons t r ih =>
      intro h
      have := ih fun x hx => h x (by simp [hx])
      have := h t (by simp)
      rw [Tr.weight_cons]
      simp [Lib.joinTail] at *
      omega
  generalize (L.scanL s).1 = l at hfine hw
  cases l with
  | nil => simp [Lib.join_nil]
  | cons t r =>
    have h1 := q r fun x hx => hfine x (by simp [hx])
    rw [Tr.weight_cons] at hw
    rw [List.map_cons, Lib.join_cons, List.length_append]
    omega
theorem lexwrite_len (s : List UInt8) : (L.writeL (scanR s).1).length ≤ 2 * s.length := by
  by_cases hs : (scanR s).2.1 = 0
  · exact lexwrite_len0 hs
  · have : (scanR s).1 = [] := by
      unfold scanR at hs ⊢
      split
      · rfl
      · rename_i hl
        rw [if_neg hl] at hs
        generalize L.scanL s = q at hs ⊢
        obtain ⟨a, b⟩ := q
        cases b with
        | none => exact absurd rfl hs
        | some t => rfl
    rw [this]
    simp [L.writeL, L.textsW, Lib.join_nil]
/-- The tokens of a source, written, are read again. -/
theorem lexwrite_parse {s : List UInt8} (h : (parseS s).2.1 = 0) (hl : s.length ≤ 2000) : (parseS (L.writeL (scanR s).1)).2.1 = 0 ∧ Tr.bare (parseS (L.writeL (scanR s).1)).1 = Tr.bare (parseS s).1 := by
  obtain ⟨hs, _⟩ := parseS_yes h
  obtain ⟨_, hn, hT, _⟩ := scanR_ok hs
  have hat := (L.scan_at s).1
  have hw := L.scan_weight s
  have hk : ∀ t ∈ (L.scanL s).1, t.kind ≤ 3 := fun t ht => (toksR_each _ _ _ t ht).1
  have hflat : (scanR s).1.map Tr.flat = (L.scanL s).1.map Tr.flat ++ [⟨4, [], 0⟩] := by rw [hT, List.map_append]; rfl
  have htx := lexwrite_join hs
  have hlen : (L.writeL (scanR s).1).length ≤ 65536 := by have := lexwrite_len0 hs; omega
  have hx : L.Lexes (L.writeL (scanR s).1) ((L.scanL s).1.map Tr.flat) := by rw [htx]; exact L.lexes_join _ fun t ht => L.fine_of (hat t ht)
  obtain ⟨g1, g2⟩ := scanR_lexes hlen hx
  obtain ⟨p1, p2⟩ := parseS_same g1 hs (by rw [g2, hflat])
  exact ⟨by rw [p2, h], p1⟩
end Go.Proofs.YtooajmbpncmgjaaGreatDoor
namespace Go.Proofs.YtooajmbpncmgjaaGreatDoor
open L (Tok)

theorem tok_here {pos k : Nat} {g r : List UInt8} (hf : L.firstL (g ++ r) = (k, g)) (ho : L.okL (k, g) = true) : L.toks pos (g ++ r) = (L.mkTok (k, g) pos :: (L.toks (pos + g.length) r).1, (L.toks (pos + g.length) r).2) := by
  have hr := L.rest_tok hf (L.okL_ne ho)
  have hsp : L.spaceL (g ++ r) = 0 := by unfold L.spaceL; rw [hr]; omega
  have := L.toks_step (pos := pos) hr hf ho
  rwa [hsp, Nat.add_zero] at this
theorem tok_fine {pos k : Nat} {x r : List UInt8} (hx : L.Fine k x) (hr : L.Stop r) : L.toks pos (L.spell k x ++ r) = (⟨k, x, pos⟩ :: (L.toks (pos + (L.spell k x).length) r).1, (L.toks (pos + (L.spell k x).length) r).2) := by
  have := tok_here (pos := pos) (L.first_stop hx.1 (L.okL_ne hx.2) hr) hx.2
  rw [this]
  unfold L.mkTok
  rw [L.text_spell]
theorem tok_solo {pos : Nat} {g r : List UInt8} (hg : L.soloB g = true) : L.toks pos (g ++ r) = (⟨3, g, pos⟩ :: (L.toks (pos + g.length) r).1, (L.toks (pos + g.length) r).2) := by
  have ho : L.okL (3, g) = true := by rcases L.solo_cases hg with rfl | rfl | rfl | rfl | rfl | rfl <;> decide
  have := tok_here (pos := pos) (L.first_solo hg r) ho
  rw [this]
  rfl
/-- The source of the law. -/
def unitSrc (x y : List UInt8) : List UInt8 := [120, 32, 123, 32, 121, 32] ++ x ++ [32] ++ y ++ [59, 32, 125]
def unitToks (x y : List UInt8) : List Tok := [⟨0, [120], 0⟩, ⟨3, [123], 2⟩, ⟨0, [121], 4⟩, ⟨1, x, 6⟩, ⟨0, y, 7 + x.length⟩, ⟨3, [59], 7 + x.length + y.length⟩, ⟨3, [125], 9 + x.length + y.length⟩]
theorem fine_x : L.Fine 0 [120] := by constructor <;> decide +kernel
theorem fine_y : L.Fine 0 [121] := by constructor <;> decide +kernel
theorem unit_scan {x y : List UInt8} (hx : L.Fine 1 x) (hy : L.Fine 0 y) : L.scanL (unitSrc x y) = (unitToks x y, none) := by
  rw [L.scan_toks]
  have e : unitSrc x y = L.spell 0 [120] ++ 32 :: ([123] ++ 32 :: (L.spell 0 [121] ++ 32 :: (L.spell 1 x ++ 32 :: (L.spell 0 y ++ ([59] ++ 32 :: ([125] ++ [])))))) := by simp [unitSrc, L.spell]
  rw [e, tok_fine fine_x (L.stop_cons (by decide)), L.toks_blank (by decide), tok_solo (by decide), L.toks_blank (by decide), tok_fine fine_y (L.stop_cons (by decide)), L.toks_blank (by decide), tok_fine hx (L.stop_cons (by decide)), L.toks_blank (by decide),
    tok_fine hy (r := [59] ++ 32 :: ([125] ++ [])) (fun c hc => by simp at hc; subst hc; rfl), tok_solo (by decide), L.toks_blank (by decide), tok_solo (by decide), L.toks_nil (by simp [L.rest])]
  unfold unitToks
  simp only [L.spell, List.length_cons, List.length_nil]
  simp
  omega
theorem unit_fine {x y : List UInt8} {l : List Tok} (hl : l.length = 8) (h : scanR (unitSrc x y) = (l, 0, 0)) (h3 : (l[3]'(by omega)).kind = 1 ∧ (l[3]'(by omega)).text = x) (h4 : (l[4]'(by omega)).kind = 0 ∧ (l[4]'(by omega)).text = y) : L.Fine 1 x ∧ L.Fine 0 y := by
  have h0 : (scanR (unitSrc x y)).2.1 = 0 := by rw [h]
  obtain ⟨hf, _⟩ := scanR_fine h0
  rw [h] at hf
  have f3 := hf (l[3]'(by omega)) (List.getElem_mem _) (by omega)
  have f4 := hf (l[4]'(by omega)) (List.getElem_mem _) (by omega)
  rw [h3.1, h3.2] at f3
  rw [h4.1, h4.2] at f4
  exact ⟨f3, f4⟩

namespace Tr
def unitOne (a : Int × Int × Int) : Tree := ⟨0, [], 0, 0, 0, [⟨1, [120], 0, 0, 0, [⟨2, [121], 0, 0, 4, [⟨5, [], a.1, a.2.1, 6, []⟩]⟩]⟩]⟩
def unitTwo (a : Int × Int × Int) (y : List UInt8) (p : Nat) : Tree := ⟨0, [], 0, 0, 0, [⟨1, [120], 0, 0, 0, [⟨2, [121], 0, 0, 4, [⟨5, [], a.1, a.2.1, 6, []⟩, ⟨3, y, 0, 0, p, []⟩]⟩]⟩]⟩
theorem amountU_err (x y : List UInt8) : (U.amountU x y).2.2 = 2 ∧ (∀ z, (U.amountU x z).2.2 = 2) ∨ (U.amountU x y).2.2 = 6 ∧ U.unitOf y = none ∨ ((U.amountU x y).2.2 = 0 ∨ (U.amountU x y).2.2 = 7) ∧ ∃ u, U.unitOf y = some u := by
  unfold U.amountU
  by_cases hc : (!U.digitsB (Lib.cut x [46]).1 20 || ((Lib.cut x [46]).2.2 && !U.digitsB (Lib.cut x [46]).2.1 9)) = true
  · left
    rw [if_pos hc]
    exact ⟨rfl, fun z => by rw [if_pos hc]⟩
  · right
    rw [if_neg hc]
    cases hu : U.unitOf y with
    | none => exact .inl ⟨rfl, rfl⟩
    | some u =>
      obtain ⟨dim, num, den⟩ := u
      right
      refine ⟨?_, _, rfl⟩
      dsimp only
      unfold U.amountM U.amountT
      split
      · exact .inl rfl
      · exact .inr rfl
theorem known_iff (y : List UInt8) : known y = (U.unitOf y).isSome := by
  have h := amountU_err [48] y
  have hz : ∃ z, (U.amountU [48] z).2.2 ≠ 2 := ⟨[], by decide +kernel⟩
  unfold known
  rcases h with ⟨_, h2⟩ | ⟨h1, h2⟩ | ⟨h1, u, h2⟩
  · obtain ⟨z, hz⟩ := hz
    exact absurd (h2 z) hz
  · rw [h1, h2]; rfl
  · rw [h2]
    rcases h1 with h1 | h1 <;> (rw [h1]; rfl)
/-- The tokens, parsed. -/
theorem unit_parse (x y : List UInt8) (e : Nat) : parseP (unitToks x y ++ [⟨4, [], e⟩]) =
    if (U.amountU x y).2.2 = 6 then (if (U.amountU x []).2.2 = 0 then (unitTwo (U.amountU x []) y (7 + x.length), 0, 0) else (zero, 7, 6))
    else if (U.amountU x y).2.2 = 0 then (unitOne (U.amountU x y), 0, 0) else (zero, 7, 6) := by
  have h6 : (if (U.amountU x y).2.2 = 6 then ((unitP (⟨0, y, 7 + x.length⟩ :: [⟨3, [59], 7 + x.length + y.length⟩, ⟨3, [125], 9 + x.length + y.length⟩, ⟨4, [], e⟩])).1 = [] ∧ known y = false) else ((U.amountU x y).2.2 = 2 ∨ known y = true)) := by
    rcases amountU_err x y with ⟨h1, _⟩ | ⟨h1, h2⟩ | ⟨h1, u, h2⟩
    · rw [if_neg (by omega)]; exact .inl h1
    · rw [if_pos h1]
      have hk : known y = false := by rw [known_iff, h2]; rfl
      refine ⟨?_, hk⟩
      unfold unitP
      rw [if_neg (by simp [hd, hk])]
    · rw [if_neg (by omega)]; exact .inr (by rw [known_iff, h2]; rfl)
  have h2 : (U.amountU x y).2.2 = 2 → ∀ z, (U.amountU x z).2.2 = 2 := fun h => by
    rcases amountU_err x y with ⟨_, h1⟩ | ⟨h1, _⟩ | ⟨h1, _⟩
    · exact h1
    · omega
    · omega
  cases hk : known y with
  | true =>
    have n6 : (U.amountU x y).2.2 ≠ 6 := by
      intro h; rw [if_pos h] at h6; rw [hk] at h6; exact absurd h6.2 (by simp)
    rw [if_neg n6]
    have hu : ∀ r, unitP (⟨0, y, 7 + x.length⟩ :: r) = (y, r) := fun r => by unfold unitP; rw [if_pos (by simp [hd, hk])]; rfl
    by_cases h0 : (U.amountU x y).2.2 = 0
    · rw [if_pos h0]
      simp [unitToks, parseP, fileL, declP, takeP, hd, wordsL, leafP, skipP, signB, untilL, propP, valueP, amountP, hu, h0, unitOne]
    · rw [if_neg h0]
      simp [unitToks, parseP, fileL, declP, takeP, hd, wordsL, leafP, skipP, signB, untilL, propP, valueP, amountP, hu, h0]
  | false =>
    have hu : ∀ r, unitP (⟨0, y, 7 + x.length⟩ :: r) = ([], ⟨0, y, 7 + x.length⟩ :: r) := fun r => by unfold unitP; rw [if_neg (by simp [hd, hk])]
    by_cases h66 : (U.amountU x y).2.2 = 6
    · rw [if_pos h66]
      by_cases h0 : (U.amountU x []).2.2 = 0
      · rw [if_pos h0]
        simp [unitToks, parseP, fileL, declP, takeP, hd, wordsL, leafP, skipP, signB, untilL, propP, valueP, amountP, hu, h0, unitTwo]
      · rw [if_neg h0]
        simp [unitToks, parseP, fileL, declP, takeP, hd, wordsL, leafP, skipP, signB, untilL, propP, valueP, amountP, hu, h0]
    · rw [if_neg h66] at h6 ⊢
      have h22 : (U.amountU x y).2.2 = 2 := by
        rcases h6 with h | h
        · exact h
        · rw [hk] at h; cases h
      have h20 := h2 h22 []
      rw [if_neg (by omega)]
      simp [unitToks, parseP, fileL, declP, takeP, hd, wordsL, leafP, skipP, signB, untilL, propP, valueP, amountP, hu, h20]
end Tr
theorem unit_parseS {x y : List UInt8} (hx : L.Fine 1 x) (hy : L.Fine 0 y) (hl : x.length ≤ 24 ∧ y.length ≤ 24) : parseS (unitSrc x y) =
    if (U.amountU x y).2.2 = 6 then (if (U.amountU x []).2.2 = 0 then (Tr.unitTwo (U.amountU x []) y (7 + x.length), 0, 0) else (Tr.zero, 7, 6))
    else if (U.amountU x y).2.2 = 0 then (Tr.unitOne (U.amountU x y), 0, 0) else (Tr.zero, 7, 6) := by
  have hlen : (unitSrc x y).length ≤ 65536 := by unfold unitSrc; simp; omega
  have hs := scanR_of hlen (unit_scan hx hy)
  rw [parseS_ok (by rw [hs]), hs]
  exact Tr.unit_parse x y _
end Go.Proofs.YtooajmbpncmgjaaGreatDoor
