/- The plain law of LinParts: what comes of points in two parts is what comes of them at once, if none of the second part is Late. -/
import Derived.Test.YtpmoaajoaiabnaaRepd
namespace Quad

theorem ask_late {s : RSt} {x : Point} {c : Call} (h : x.late = false) (s' : RSt) : askR s x c = askR s' x c := by
  unfold askR; rw [h]; rfl

theorem run_late {calls : List (List Call)} : ∀ (l : List Point) (s s' t : RSt), (∀ x ∈ l, x.late = false) → s.p = s'.p → runR calls s l = some t →
    ∃ t', runR calls s' l = some t' ∧ t'.p = t.p ∧ ∃ m, t.out = s.out ++ m ∧ t'.out = s'.out ++ m := by
  intro l
  induction l with
  | nil =>
    intro s s' t _ hp h
    cases h
    exact ⟨s', rfl, hp.symm, [], by simp, by simp⟩
  | cons x l ih =>
    intro s s' t hl hp h
    simp only [runR] at h ⊢
    cases e : stepR calls s x with
    | none => rw [e] at h; cases h
    | some s1 =>
      rw [e] at h
      unfold stepR at e
      split at e
      · cases e
      · rename_i c hc
        split at e
        · cases e
        · rename_i r hr
          cases e
          have h2 : stepR calls s' x = some (nextR s' x r) := by
            unfold stepR
            rw [hc]
            simp only
            rw [← hp, ask_late (hl x (by simp)) s, hr]
          rw [h2]
          obtain ⟨t', h3, h4, m, h5, h6⟩ := ih (nextR s x r) (nextR s' x r) t (fun y hy => hl y (by simp [hy])) rfl h
          refine ⟨t', h3, h4, r.2 :: m, ?_, ?_⟩
          · rw [h5]; simp [nextR]
          · rw [h6]; simp [nextR]

theorem parts {calls : List (List Call)} {l : List Point} {k : Nat} {p : Phase} {t t1 : RSt} (hl : ∀ x ∈ l.drop k, x.late = false) (h : runR calls (startR p) l = some t) (h1 : runR calls (startR p) (l.take k) = some t1) :
    ∃ t2, runR calls (startR t1.p) (l.drop k) = some t2 ∧ t.p = t2.p ∧ t.out = t1.out ++ t2.out := by
  rw [← List.take_append_drop k l, runR_append, h1] at h
  simp only [Option.bind_some] at h
  obtain ⟨t2, h2, h3, m, h4, h5⟩ := run_late (l.drop k) t1 (startR t1.p) t hl rfl h
  exact ⟨t2, h2, h3.symm, by rw [h4, h5]; simp [startR]⟩

theorem parts_none {calls : List (List Call)} {l : List Point} {k : Nat} {p : Phase} (h1 : runR calls (startR p) (l.take k) = none) : runR calls (startR p) l = none := by
  rw [← List.take_append_drop k l, runR_append, h1]; rfl
end Quad
