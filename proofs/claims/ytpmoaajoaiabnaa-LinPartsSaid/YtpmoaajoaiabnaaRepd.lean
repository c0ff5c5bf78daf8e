/- Plain words: what lin.Replay comes to; no program in sight. -/
import Derived.Test.YtpmoaajoaiabnaaDefs
namespace Quad

def callAt (calls : List (List Call)) (t c : Int) : Option Call :=
  if 0 ≤ t ∧ 0 ≤ c then (calls[t.toNat]?).bind fun l => l[c.toNat]? else none

structure RSt where
  p : Phase
  f : Int → Int → Option Int
  out : List Int

def askR (s : RSt) (x : Point) (c : Call) : Call :=
  if c.what = 9 then (if x.late then ⟨10, max 0 ((s.f x.thread x.call).getD 0)⟩ else ⟨7, c.n⟩) else c

def nextR (s : RSt) (x : Point) (r : Phase × Int) : RSt :=
  ⟨r.1, fun t k => if t = x.thread ∧ k = x.call then some r.2 else s.f t k, s.out ++ [r.2]⟩

def stepR (calls : List (List Call)) (s : RSt) (x : Point) : Option RSt :=
  match callAt calls x.thread x.call with
  | none => none
  | some c =>
    match doF s.p (askR s x c) with
    | none => none
    | some r => some (nextR s x r)

def runR (calls : List (List Call)) : RSt → List Point → Option RSt
  | s, [] => some s
  | s, x :: l => (stepR calls s x).bind fun s' => runR calls s' l

def startR (p : Phase) : RSt := ⟨p, fun _ _ => none, []⟩

theorem runR_append (calls : List (List Call)) (l m : List Point) : ∀ s, runR calls s (l ++ m) = (runR calls s l).bind fun s' => runR calls s' m := by
  induction l with
  | nil => intro s; rfl
  | cons x l ih =>
    intro s
    simp only [List.cons_append, runR]
    cases stepR calls s x with
    | none => rfl
    | some s' => simp [ih]

theorem runR_out (calls : List (List Call)) (l : List Point) : ∀ s s', runR calls s l = some s' → s'.out.length = s.out.length + l.length := by
  induction l with
  | nil => intro s s' h; cases h; rfl
  | cons x l ih =>
    intro s s' h
    simp only [runR] at h
    cases e : stepR calls s x with
    | none => rw [e] at h; cases h
    | some s1 =>
      rw [e] at h
      have := ih s1 s' h
      rw [this]
      unfold stepR at e
      split at e
      · cases e
      · split at e
        · cases e
        · cases e; simp [nextR]; omega

theorem runR_step {calls : List (List Call)} {l : List Point} {k : Nat} {x : Point} {s s1 : RSt} (hk : l[k]? = some x) (h : runR calls s (l.take k) = some s1) : runR calls s (l.take (k + 1)) = stepR calls s1 x := by
  have hlt : k < l.length := by
    rcases Nat.lt_or_ge k l.length with h | h
    · exact h
    · rw [List.getElem?_eq_none h] at hk; cases hk
  have e : l.take (k + 1) = l.take k ++ [x] := by
    rw [List.take_add_one, hk]; rfl
  rw [e, runR_append, h]
  simp [runR]

theorem runR_none {calls : List (List Call)} {l : List Point} {k : Nat} {s : RSt} (h : runR calls s (l.take k) = none) : runR calls s l = none := by
  have e : l = l.take k ++ l.drop k := (List.take_append_drop k l).symm
  rw [e, runR_append, h]; rfl
end Quad
