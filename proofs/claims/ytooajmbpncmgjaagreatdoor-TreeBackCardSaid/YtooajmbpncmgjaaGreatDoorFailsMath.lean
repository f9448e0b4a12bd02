/- Layer 15's law TreeFails, plainly. -/
import Derived.Test.YtooajmbpncmgjaaGreatDoorTreeT
import Derived.Test.YtooajmbpncmgjaaGreatDoorPlain
namespace Go.Proofs.YtooajmbpncmgjaaGreatDoor
open L (Tok)

theorem scan_kinds (s : List UInt8) : ∀ t ∈ (L.scanL s).1, t.kind ≠ 4 := fun t ht => by
  have := (toksR_each _ _ _ t ht).1
  omega
theorem scanR_of {s : List UInt8} {l : List Tok} (hl : s.length ≤ 65536) (h : L.scanL s = (l, none)) : scanR s = (l ++ [⟨4, [], s.length⟩], 0, 0) := by
  unfold scanR
  rw [if_neg (by omega), h]
theorem scanR_ended {s : List UInt8} (h : (scanR s).2.1 = 0) : Tr.Ended (scanR s).1 := by
  obtain ⟨_, _, h3, _⟩ := scanR_ok h
  rw [h3]
  exact ⟨_, _, rfl, rfl, scan_kinds s⟩
theorem scanR_err (s : List UInt8) : (scanR s).2.1 = 0 ∨ (scanR s).2.1 = 2 ∨ (scanR s).2.1 = 8 := by
  unfold scanR
  split
  · exact .inr (.inr rfl)
  · generalize L.scanL s = q
    obtain ⟨a, b⟩ := q
    cases b with
    | none => exact .inl rfl
    | some t => exact .inr (.inl rfl)
theorem parseS_ok {s : List UInt8} (h : (scanR s).2.1 = 0) : parseS s = Tr.parseP (scanR s).1 := by unfold parseS; rw [if_pos h]
theorem parseS_bad {s : List UInt8} (h : (scanR s).2.1 ≠ 0) : parseS s = (Tr.zero, (scanR s).2.1, (scanR s).2.2) := by unfold parseS; rw [if_neg h]
/-- Parse without an error. -/
theorem parseS_yes {s : List UInt8} (h : (parseS s).2.1 = 0) : (scanR s).2.1 = 0 ∧ ∃ l r, parseS s = (⟨0, [], 0, 0, 0, l⟩, 0, 0) ∧ Tr.G .file (scanR s).1 l r := by
  by_cases hs : (scanR s).2.1 = 0
  · refine ⟨hs, ?_⟩
    rw [parseS_ok hs] at h ⊢
    rcases Tr.parse_cases (scanR_ended hs) with ⟨l, r, e, _, hg⟩ | ⟨e, he, _, hb⟩
    · exact ⟨l, r, e, hg⟩
    · rw [he] at h
      have h0 : e.1 = 0 := h
      have := hb.1
      omega
  · rw [parseS_bad hs] at h
    exact absurd h hs
/-- Parse with an error. -/
theorem parseS_no {s : List UInt8} (h : (parseS s).2.1 ≠ 0) : (parseS s).1 = Tr.zero ∧ ((parseS s).2.1 = 2 ∨ (parseS s).2.1 = 7 ∨ (parseS s).2.1 = 8) ∧ ((scanR s).2.1 = 0 → ∃ i, ∃ h : i < (scanR s).1.length, (scanR s).1[i].pos = (parseS s).2.2) := by
  by_cases hs : (scanR s).2.1 = 0
  · rw [parseS_ok hs] at h ⊢
    rcases Tr.parse_cases (scanR_ended hs) with ⟨l, r, e, _, hg⟩ | ⟨e, he, _, hb⟩
    · rw [e] at h; exact absurd rfl h
    · rw [he]
      refine ⟨rfl, hb.1, fun _ => ?_⟩
      obtain ⟨t, ht, hp⟩ := hb.2
      obtain ⟨i, hi, rfl⟩ := List.getElem_of_mem ht
      exact ⟨i, hi, hp.symm⟩
  · rw [parseS_bad hs] at h ⊢
    refine ⟨rfl, ?_, fun e => absurd e hs⟩
    show (scanR s).2.1 = 2 ∨ (scanR s).2.1 = 7 ∨ (scanR s).2.1 = 8
    have := scanR_err s
    omega
/-- A source that is cut at the place of an error of form. -/
theorem parseS_cut {s : List UInt8} (hs : (scanR s).2.1 = 0) (h : (parseS s).2.1 = 2) : (parseS s).2.2 ≤ s.length ∧ ((parseS (s.take (parseS s).2.2)).2.1 = 0 ∨ ((parseS (s.take (parseS s).2.2)).2.1 = 2 ∧ (parseS (s.take (parseS s).2.2)).2.2 = (parseS s).2.2)) := by
  obtain ⟨hl, hn, hT, _⟩ := scanR_ok hs
  have hp := parseS_ok hs
  have hsc : L.scanL s = ((L.scanL s).1, none) := Prod.ext rfl hn
  obtain ⟨hat, hpw⟩ := L.scan_at s
  have hk := scan_kinds s
  generalize (L.scanL s).1 = l at hT hsc hat hpw hk
  rw [hp] at h ⊢
  rcases Tr.parse_cases (scanR_ended hs) with ⟨l, r, e, _, hg⟩ | ⟨e, he, hf, hb⟩
  · rw [e] at h; cases h
  · rw [he] at h ⊢
    have h2 : e.1 = 2 := h
    obtain ⟨t, ht, hpos⟩ := hb.2
    rw [hT] at ht
    dsimp only
    rcases List.mem_append.1 ht with ht | ht
    · obtain ⟨l1, l2, rfl⟩ := List.append_of_mem ht
      have hlen := (hat t (by simp)).len
      have hcut := L.scan_cut hsc
      have htl : (s.take t.pos).length = t.pos := by rw [List.length_take]; omega
      have hR := scanR_of (s := s.take t.pos) (by omega) hcut
      rw [hpos]
      refine ⟨by omega, ?_⟩
      rw [parseS_ok (by rw [hR]), hR, htl]
      dsimp only
      have hspell : ∀ c ∈ l1 ++ t :: l2, 0 < (L.spell c.kind c.text).length := fun c hc => List.length_pos_iff.2 (L.okL_ne (hat c hc).ok)
      rw [List.pairwise_append, List.pairwise_cons] at hpw
      have hC : Tr.Cut t ⟨4, [], t.pos⟩ (l2 ++ [⟨4, [], s.length⟩]) l1 := by
        refine ⟨rfl, rfl, hk t (by simp), fun c hc => hk c (by simp [hc]), fun c hc => ?_, fun c hc => ?_, ⟨l2, _, rfl, rfl, fun c hc => hk c (by simp [hc])⟩⟩
        · have h1 := hpw.2.2 c hc t (by simp)
          have h2 := hspell c (by simp [hc])
          omega
        · rcases List.mem_append.1 hc with hc | hc
          · have h1 := hpw.2.1.1 c hc
            have h2 := hspell t (by simp)
            omega
          · simp at hc
            subst hc
            have h2 := hspell t (by simp)
            show s.length ≠ t.pos
            omega
      have hT2 : (scanR s).1 = l1 ++ t :: (l2 ++ [⟨4, [], s.length⟩]) := by rw [hT]; simp
      rw [hT2] at hf
      have he2 : e = (2, t.pos) := Prod.ext h2 hpos
      rw [he2] at hf
      unfold Tr.parseP
      rcases Tr.file_cut _ ((l1 ++ [(⟨4, [], t.pos⟩ : Tok)]).length + 1) l1 hC (Nat.lt_succ_self _) (Nat.lt_succ_self _) with ⟨q, k⟩ | k | k
      · rw [k]; exact Or.inl rfl
      · rw [k]; right; constructor <;> rfl
      · exact absurd hf k
    · simp at ht
      subst ht
      rw [hpos]
      refine ⟨Nat.le_refl _, .inr ?_⟩
      rw [List.take_length, hp, he]
      exact ⟨h2, hpos⟩
end Go.Proofs.YtooajmbpncmgjaaGreatDoor
