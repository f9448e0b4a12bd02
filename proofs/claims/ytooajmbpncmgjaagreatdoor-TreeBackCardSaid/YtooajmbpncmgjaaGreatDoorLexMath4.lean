/- Layer 13's tokens: their kinds, sizes and number. -/
import Derived.Test.YtooajmbpncmgjaaGreatDoorLexG
namespace Go.Proofs.YtooajmbpncmgjaaGreatDoor

theorem toksR_each : ∀ (f pos : Nat) (r : List UInt8), ∀ t ∈ (L.toksR f pos r).1, t.kind ≤ 3 ∧ t.text.length ≤ 502
  | 0, _, _, t, h => by simp [L.toksR] at h
  | f + 1, pos, r, t, h => by
    by_cases hr : r = []
    · subst hr; rw [L.toksR_nil] at h; simp at h
    · cases ho : L.okL (L.firstL r) with
      | false => rw [L.toksR_bad f pos r hr _ rfl ho] at h; simp at h
      | true =>
        rw [L.toksR_step f pos r hr _ rfl ho] at h
        rcases List.mem_cons.1 h with rfl | h
        · have h1 : (L.firstL r).2.length ≤ L.mostL (L.firstL r).1 := by
            unfold L.okL at ho
            simp at ho
            exact ho.2
          have h2 : L.mostL (L.firstL r).1 ≤ 502 := by unfold L.mostL; split <;> omega
          refine ⟨L.firstL_kind r, ?_⟩
          show (L.textOf (L.firstL r)).length ≤ 502
          unfold L.textOf
          split
          · simp; omega
          · omega
        · exact toksR_each f _ _ t h
theorem toksR_most : ∀ (f pos : Nat) (r : List UInt8), (L.toksR f pos r).1.length ≤ f
  | 0, _, _ => by simp [L.toksR]
  | f + 1, pos, r => by
    by_cases hr : r = []
    · subst hr; rw [L.toksR_nil]; simp
    · cases ho : L.okL (L.firstL r) with
      | false => rw [L.toksR_bad f pos r hr _ rfl ho]; simp
      | true =>
        rw [L.toksR_step f pos r hr _ rfl ho]
        have := toksR_most f (pos + (L.firstL r).2.length + L.spaceL (r.drop (L.firstL r).2.length)) (L.rest false (r.drop (L.firstL r).2.length))
        simp; omega

/-- The tokens of a source without an error: the last one alone is the end. -/
theorem scanR_ok {s : List UInt8} (h : (scanR s).2.1 = 0) : s.length ≤ 65536 ∧ (L.scanL s).2 = none ∧ (scanR s).1 = (L.scanL s).1 ++ [⟨4, [], s.length⟩] ∧ (scanR s).2.2 = 0 := by
  unfold scanR at h ⊢
  by_cases hl : 65536 < s.length
  · rw [if_pos hl] at h; simp at h
  · rw [if_neg hl] at h ⊢
    generalize hq : L.scanL s = q at h ⊢
    obtain ⟨a, b⟩ := q
    cases b with
    | none => exact ⟨by omega, rfl, rfl, rfl⟩
    | some t => simp at h
theorem scanR_facts {s : List UInt8} (h : (scanR s).2.1 = 0) : 0 < (scanR s).1.length ∧ (scanR s).1.length ≤ 70000 ∧ (∀ i (hi : i < (scanR s).1.length), (scanR s).1[i].kind = 4 ↔ i + 1 = (scanR s).1.length) ∧
    ∀ i (hi : i < (scanR s).1.length), (scanR s).1[i].text.length ≤ 1000000 := by
  obtain ⟨hl, _, he, _⟩ := scanR_ok h
  rw [he]
  have hlen : (L.scanL s).1.length ≤ s.length + 1 := toksR_most _ _ _
  have hk : ∀ t ∈ (L.scanL s).1, t.kind ≤ 3 ∧ t.text.length ≤ 502 := toksR_each _ _ _
  refine ⟨by simp, by simp; omega, fun i hi => ?_, fun i hi => ?_⟩
  · rw [List.getElem_append]
    split
    · rename_i hlt
      have := hk _ (List.getElem_mem hlt)
      constructor
      · intro e; omega
      · intro e; simp at e; omega
    · rename_i hlt
      simp at hi hlt ⊢
      omega
  · rw [List.getElem_append]
    split
    · rename_i hlt
      have := hk _ (List.getElem_mem hlt)
      omega
    · simp
end Go.Proofs.YtooajmbpncmgjaaGreatDoor
