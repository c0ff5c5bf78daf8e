/- A map from pairs of ints to ints that a call has made, as a plain function of its keys. -/
import Derived.Test.YtpmoaajoaiabnaaPhas
import Derived.Maps.Views
import Derived.Maps.OwnOps
import Derived.Maps.OwnSet
import Derived.DeepKeys4
import Derived.Carry
namespace Go.Proofs.Ytpmoaajoaiabnaa
open Go.RowKit Go.Maps

theorem laidOut' : laidOutB Try.prog = true := by kernel_rfl
theorem rowPair : (52 : TypeId) < Try.prog.types.size := of_decide_eq_true (by kernel_rfl)
theorem cellsPair : Try.prog.cellsOf 52 = 2 := by kernel_rfl
theorem cellsInt : Try.prog.cellsOf 3 = 1 := by kernel_rfl
theorem widePair : (match Try.prog.underlying 52 with | some (.array _ _) | some (.struct _) => true | _ => false) = true := by rw [Try.underlying52]
theorem lawPair : Keyed Try.prog 52 := Keyed.of_law (deep_law_laid laidOut' (m := 2) (by omega) rowPair (by kernel_rfl) widePair)
theorem keyTypePair : Try.prog.keyType 52 = true := by kernel_rfl
theorem sizeTypes : ∃ n, Try.prog.types.size + 1 = n + 2 := by
  have h : 0 < Try.prog.types.size := Nat.lt_of_le_of_lt (Nat.zero_le _) rowPair
  exact ⟨Try.prog.types.size - 1, by omega⟩
theorem zeroInt (w : World) : (zeroValue 3).run Try.prog w = .ok (.int .i64 0) w := by kernel_rfl

def pairV (i j : Int) : Value := .agg #[.int .i64 i, .int .i64 j]
def in64 (i : Int) : Prop := (Lit.int .i64 i).wf = true
theorem in64_of {i : Int} (h : -9223372036854775808 ≤ i) (h2 : i ≤ 9223372036854775807) : in64 i := WalkArith.wf_i64 ⟨h, h2⟩

theorem key_ex {i j : Int} (hi : in64 i) (hj : in64 j) : ∃ kl, keyOf Try.prog 52 (pairV i j) = some kl := by
  obtain ⟨n, hn⟩ := sizeTypes
  have e1 : ∀ x, in64 x → Try.prog.keyLits (n + 1) 3 [.int .i64 x] = some [.int .i64 x] := by
    intro x hx
    unfold Program.keyLits
    rw [Try.underlying3]
    show (if IntKind.i64 = IntKind.i64 ∧ (Lit.int .i64 x).wf = true then some [Lit.int .i64 x] else none) = _
    rw [if_pos ⟨rfl, hx⟩]
  have e2 : Try.prog.keyLits (n + 2) 52 [.int .i64 i, .int .i64 j] = some [.int .i64 i, .int .i64 j] := by
    rw [Program.keyLits.eq_def]
    simp only [Try.underlying52]
    rw [if_pos (show [Value.int .i64 i, Value.int .i64 j].length = Try.prog.cellsOf 52 from cellsPair.symm), cellsInt]
    show ((List.range 2).mapM fun i' => Try.prog.keyLits (n + 1) 3 (([Value.int .i64 i, .int .i64 j].drop (i' * 1)).take 1)).map List.flatten = _
    simp [List.range_succ, e1 i hi, e1 j hj]
  refine ⟨.string (keyBytes [.int .i64 i, .int .i64 j]), ?_⟩
  unfold keyOf
  rw [Try.underlying52]
  show (if Try.prog.keyType 52 && (pairV i j).formed Try.prog 52 then (Try.prog.keyLits (Try.prog.types.size + 1) 52 [.int .i64 i, .int .i64 j]).map fun ls => Lit.string (keyBytes ls) else none) = _
  have hf : (pairV i j).formed Try.prog 52 = true := by simp [Value.formed, pairV, Try.underlying52, cellsPair]
  rw [keyTypePair, hf, hn, e2]
  rfl

theorem key_inj {i j i' j' : Int} {kl : Lit} (h : keyOf Try.prog 52 (pairV i j) = some kl) (h' : keyOf Try.prog 52 (pairV i' j') = some kl) : i = i' ∧ j = j' := by
  have := lawPair.inj h h'
  simpa [pairV] using this

/- Block b is a map of at most n entries; f says what each key's number is, none if it isn't there. -/
def MapFn (w : World) (b n : Nat) (f : Int → Int → Option Int) : Prop :=
  ∃ D : DataW Unit, w.ownsMap Try.prog 52 (plainElem Try.prog 3) b n D ∧
    (∀ i j, (f i j).isSome → in64 i ∧ in64 j) ∧
    ∀ i j kl, keyOf Try.prog 52 (pairV i j) = some kl → (has D kl = (f i j).isSome) ∧ ∀ z, D.atKey kl z = (match f i j with | some x => .lit (.int .i64 x) | none => z)

theorem mapFn_made (w : World) : MapFn (w.alloc (.map #[] 0)) w.heap.size 0 (fun _ _ => none) :=
  ⟨.map [], World.ownsMap_made _ _ _ _, by simp, fun i j kl _ => ⟨rfl, fun z => rfl⟩⟩

theorem MapFn.kept {w w' : World} {b n : Nat} {f : Int → Int → Option Int} {row : Option Nat} (h : MapFn w b n f) (hg : w.grownBy w' row) (hne : some b ≠ row) : MapFn w' b n f := by
  obtain ⟨D, h1, h2⟩ := h
  exact ⟨D, h1.kept hg hne, h2⟩
theorem MapFn.of_block {w w' : World} {b n : Nat} {f : Int → Int → Option Int} (h : MapFn w b n f) (hb : w'.heap[b]? = w.heap[b]?) : MapFn w' b n f := by
  obtain ⟨D, ⟨es, clock, h1, h3⟩, h2⟩ := h
  exact ⟨D, ⟨es, clock, hb.trans h1, h3⟩, h2⟩
theorem MapFn.lt {w : World} {b n : Nat} {f : Int → Int → Option Int} (h : MapFn w b n f) : b < w.heap.size := by
  obtain ⟨D, h1, _⟩ := h
  exact h1.lt

theorem MapFn.store {w : World} {b n : Nat} {f : Int → Int → Option Int} (h : MapFn w b n f) (hn : n < maxLen) {i j x : Int} (hi : in64 i) (hj : in64 j) (hx : in64 x) :
    ∃ w', (Instr.mapUpdate 46 (.map (some b)) (pairV i j) (.int .i64 x)).run Try.prog w = .ok () w' ∧ MapFn w' b (n + 1) (fun i' j' => if i' = i ∧ j' = j then some x else f i' j') ∧ w.grownBy w' (some b) := by
  obtain ⟨D, h1, h3, h2⟩ := h
  obtain ⟨kl, hkl⟩ := key_ex hi hj
  obtain ⟨w', hrun, hown, hg⟩ := h1.update lawPair Try.underlying46 hn hkl (plainElem_int (H := Unit) Try.underlying3 hx)
  refine ⟨w', hrun, ⟨_, hown, ?_, ?_⟩, hg⟩
  · intro i' j'
    by_cases e : i' = i ∧ j' = j
    · obtain ⟨rfl, rfl⟩ := e
      exact fun _ => ⟨hi, hj⟩
    · simp only [if_neg e]
      exact h3 i' j'
  · intro i' j' kl' hkl'
    have hm : IsMap D := h1.isMap
    have hk : WideAt.IsKeyLit kl := lawPair.key hkl
    by_cases e : i' = i ∧ j' = j
    · obtain ⟨rfl, rfl⟩ := e
      have : kl' = kl := by rw [hkl] at hkl'; exact (Option.some.inj hkl').symm
      subst this
      refine ⟨by simp [has_put_same hm hk], fun z => ?_⟩
      simp [atKey_put_same hm hk]
    · have hne : kl' ≠ kl := by
        rintro rfl
        have := key_inj hkl' hkl
        exact e this
      obtain ⟨q1, q2⟩ := h2 i' j' kl' hkl'
      simp only [if_neg e]
      refine ⟨?_, fun z => ?_⟩
      · rw [has_put_other hne]; exact q1
      · rw [atKey_put_other hne]; exact q2 z

theorem MapFn.look {w : World} {b n : Nat} {f : Int → Int → Option Int} (h : MapFn w b n f) {i j : Int} (hi : in64 i) (hj : in64 j) :
    (Instr.lookup 46 (.map (some b)) (pairV i j) false).run Try.prog w = .ok (.int .i64 ((f i j).getD 0)) w := by
  obtain ⟨D, h1, h3, h2⟩ := h
  obtain ⟨kl, hkl⟩ := key_ex hi hj
  obtain ⟨c, hrun, hat, _⟩ := h1.lookup_int lawPair Try.underlying46 Try.underlying3 (zeroInt w) hkl
  obtain ⟨_, q2⟩ := h2 i j kl hkl
  rw [hrun]
  have := (q2 _).symm.trans hat
  cases hf : f i j with
  | none => rw [hf] at this; simp at this; simp [this]
  | some x => rw [hf] at this; simp at this; simp [this]

theorem run_makeMap' (w : World) : (Instr.makeMap 46 none).run Try.prog w = .ok (.map (some w.heap.size)) (w.alloc (.map #[] 0)) := run_makeMap ..

end Go.Proofs.Ytpmoaajoaiabnaa
