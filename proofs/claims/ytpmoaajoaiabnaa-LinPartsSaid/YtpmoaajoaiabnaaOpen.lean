/- Arguments opened: points and calls as plain lists. -/
import Derived.Test.YtpmoaajoaiabnaaRepl
import Derived.ProofKit
import Derived.OpenShut
import Derived.Deep.Slices
import Derived.Deep.SlicePairs
import Derived.Deep.Fields
import Derived.ChangeSame
import Derived.Lib.SmallJoins
namespace Go.Proofs.Ytpmoaajoaiabnaa
open Go.RowKit Go.ChangeShapes Go.WideShapes Go.Deep

theorem cell_zero {w : World} {a : Addr} {v : Value} (h : w.cell? (a.add 0) = some v) : ∃ b off, a = ⟨b, off, none⟩ ∧ b < w.heap.size := by
  have hs := World.cell?_spot h
  obtain ⟨b, off, spot⟩ := a
  have hs' : spot = none := by simpa [Addr.add] using hs
  subst hs'
  have h' : w.cell? ⟨b, off, none⟩ = some v := by simpa [Addr.add] using h
  refine ⟨b, off, rfl, ?_⟩
  unfold World.cell? at h'
  rcases Nat.lt_or_ge b w.heap.size with hlt | hge
  · exact hlt
  · simp [Array.getElem?_eq_none hge] at h'

theorem add_none (b off i : Nat) : (⟨b, off, none⟩ : Addr).add i = ⟨b, off + i, none⟩ := by
  by_cases h : i = 0
  · subst h; simp [Addr.add]
  · simp [Addr.add, h]

section
variable {H : Type} {enc : TypeId × Value → H} {P : Program} {w : World} {base : Nat} {spare : Nat → Bool} {held : Bool}
theorem open_slice_fields {t e : TypeId} {fs : Array Field} {fuel : Nat} {cs : List Value} {x : DataW H × List MemPlace} (ht : P.underlying t = some (.slice e)) (he : P.underlying e = some (.struct fs))
    (hone : oneCellFields P fs = true) (hC : P.cellsOf e = fs.size) (h : DataW.trod enc P w base spare held fuel t cs = some x) :
    (cs = [.slice none 0 0] ∧ x = (.nil, [])) ∨
    ∃ (a : Addr) (len cap : Nat), cs = [.slice (some a) len cap] ∧ len ≤ cap ∧ cap ≤ maxLen ∧
      ∀ i, i < len → ∀ (j : Nat) (f : Field), fs[j]? = some f → ∃ (v : Value) (n : Nat) (y : DataW H × List MemPlace), w.cell? (a.add (i * fs.size + j)) = some v ∧ DataW.trod enc P w base spare held n f.type [v] = some y := by
  rcases open_slice ht h with h0 | ⟨a, len, cap, m, n, D, Pl, hcs, hb, hl, hm, hmm, hx, hi⟩
  · exact .inl h0
  · refine .inr ⟨a, len, cap, hcs, hl, hm, fun i him j f hj => ?_⟩
    obtain ⟨cs', hc, ht'⟩ := hi i (by rw [hmm]; split <;> omega)
    rw [hC] at hc
    obtain ⟨ys, n', hn', hy, hlen, hyl, hf⟩ := DataW.trod_struct he ht'
    obtain ⟨_, hcl, hat⟩ := World.cells?_some hc
    obtain ⟨ho, hk⟩ := hone_of hone j f hj
    have hjl : j < fs.size := (Array.getElem?_eq_some_iff.1 hj).1
    have hcell := hat j hjl
    have h1 := hf j f hj
    rw [ho, hk] at h1
    have hone' : (cs'.drop j).take 1 = [cs'[j]'(by omega)] := by
      rw [List.drop_eq_getElem_cons (by omega)]
      rfl
    rw [hone'] at h1
    have hys : ys[j]? = some (ys[j]'(by omega)) := List.getElem?_eq_getElem (by omega)
    refine ⟨cs'[j]'(by omega), n', _, ?_, h1.trans hys⟩
    rw [← Go.Deep.add_add, hcell]
    exact List.getElem?_eq_getElem (by omega)
end

section
variable {H : Type} {enc : TypeId × Value → H} {w : World} {base : Nat} {spare : Nat → Bool} {held : Bool}

theorem list_of {α : Type} (n : Nat) (f : Nat → α) : ∃ l : List α, l.length = n ∧ ∀ (i : Nat) x, l[i]? = some x → i < n ∧ x = f i :=
  ⟨(List.range n).map f, by simp, fun i x h => by
    rw [List.getElem?_map] at h
    cases hr : (List.range n)[i]? with
    | none => rw [hr] at h; cases h
    | some k =>
      rw [hr] at h
      cases h
      rw [List.getElem?_eq_some_iff] at hr
      obtain ⟨hi, e⟩ := hr
      simp at hi e
      exact ⟨hi, by rw [e]⟩⟩

/- A slice of points that came in. -/
theorem open_points {v : Value} {d : DataW H} {p : List MemPlace} (hv : ∃ a n c, v = .slice a n c) (h : DataW.Trod enc Try.prog w base spare held 25 v d p) :
    ∃ l : List Quad.Point, SlPs w v l ∧ (∀ a n c, v = .slice a n c → n ≤ c) ∧ l.length ≤ 9223372036854775807 ∧ ∀ x ∈ l, in64 x.thread ∧ in64 x.call := by
  obtain ⟨fuel, hf⟩ := h
  obtain ⟨a', n', c', rfl⟩ := hv
  rcases open_slice_fields Try.underlying25 Try.underlying30 (by kernel_rfl) (by kernel_rfl) hf with ⟨hcs, _⟩ | ⟨a, len, cap, hcs, hl, hm, hi⟩
  · simp [Value.cells] at hcs
    obtain ⟨rfl, rfl, rfl⟩ := hcs
    exact ⟨[], ⟨none, 0, rfl, fun i p hp => by cases hp⟩, fun a n c e => by cases e; exact Nat.le_refl _, by simp, fun x hx => by cases hx⟩
  · simp [Value.cells] at hcs
    obtain ⟨rfl, rfl, rfl⟩ := hcs
    have hx : ∀ i, i < n' → ∃ p : Quad.Point, (w.cell? (a.add (i * 4 + 0)) = some (.int .i64 p.when_) ∧ w.cell? (a.add (i * 4 + 1)) = some (.int .i64 p.thread) ∧ w.cell? (a.add (i * 4 + 2)) = some (.int .i64 p.call) ∧ w.cell? (a.add (i * 4 + 3)) = some (.bool p.late)) ∧ in64 p.thread ∧ in64 p.call := by
      intro i him
      obtain ⟨v0, m0, y0, e0, t0⟩ := hi i him 0 _ rfl
      obtain ⟨v1, m1, y1, e1, t1⟩ := hi i him 1 _ rfl
      obtain ⟨v2, m2, y2, e2, t2⟩ := hi i him 2 _ rfl
      obtain ⟨v3, m3, y3, e3, t3⟩ := hi i him 3 _ rfl
      obtain ⟨x0, hc0, _, w0⟩ := DataW.trod_int Try.underlying3 t0
      obtain ⟨x1, hc1, _, w1⟩ := DataW.trod_int Try.underlying3 t1
      obtain ⟨x2, hc2, _, w2⟩ := DataW.trod_int Try.underlying3 t2
      obtain ⟨x3, hc3, _⟩ := DataW.trod_bool Try.underlying4 t3
      cases hc0; cases hc1; cases hc2; cases hc3
      exact ⟨⟨x0, x1, x2, x3⟩, ⟨e0, e1, e2, e3⟩, w1, w2⟩
    haveI : Inhabited Quad.Point := ⟨⟨0, 0, 0, false⟩⟩
    obtain ⟨f, hfx⟩ := choose_lt hx
    obtain ⟨l, hll, hlf⟩ := list_of n' f
    refine ⟨l, ⟨some a, c', by rw [hll], fun i p hp => ?_⟩, fun a2 n2 c2 e => by cases e; exact hl, by unfold maxLen at hm; omega, fun x hx => ?_⟩
    · obtain ⟨him, rfl⟩ := hlf i p hp
      obtain ⟨b, off, rfl, hbz⟩ := cell_zero (hfx 0 (by omega)).1.1
      obtain ⟨⟨e0, e1, e2, e3⟩, _⟩ := hfx i him
      rw [add_none] at e0 e1 e2 e3
      exact ⟨b, off, rfl, hbz, by simpa using e0, by simpa [Nat.add_assoc] using e1, by simpa [Nat.add_assoc] using e2, by simpa [Nat.add_assoc] using e3⟩
    · obtain ⟨i, hi', e⟩ := List.getElem_of_mem hx
      obtain ⟨him, hxe⟩ := hlf i x (by rw [List.getElem?_eq_getElem hi', e])
      rw [hxe]
      exact (hfx i him).2

/- One list of calls, behind its slice's value. -/
def CallsCell (w : World) (v : Value) (l : List Quad.Call) : Prop :=
  ∃ ia icap, v = .slice ia l.length icap ∧ l.length ≤ 9223372036854775807 ∧ ∀ j c, l[j]? = some c → ∃ ib ioff, ia = some ⟨ib, ioff, none⟩ ∧ ib < w.heap.size ∧ w.cell? ⟨ib, ioff + j * 2, none⟩ = some (.int .i64 c.what) ∧ w.cell? ⟨ib, ioff + j * 2 + 1, none⟩ = some (.int .i64 c.n)

theorem open_calls1 {fuel : Nat} {v : Value} {x : DataW H × List MemPlace} (hf : DataW.trod enc Try.prog w base spare held fuel 47 [v] = some x) : ∃ l, CallsCell w v l := by
  rcases open_slice_fields Try.underlying47 Try.underlying43 (by kernel_rfl) (by kernel_rfl) hf with ⟨hcs, _⟩ | ⟨a, len, cap, hcs, hl, hm, hi⟩
  · cases hcs
    exact ⟨[], none, 0, rfl, by simp, fun i p hp => by cases hp⟩
  · cases hcs
    have hx : ∀ i, i < len → ∃ c : Quad.Call, w.cell? (a.add (i * 2 + 0)) = some (.int .i64 c.what) ∧ w.cell? (a.add (i * 2 + 1)) = some (.int .i64 c.n) := by
      intro i him
      obtain ⟨v0, m0, y0, e0, t0⟩ := hi i him 0 _ rfl
      obtain ⟨v1, m1, y1, e1, t1⟩ := hi i him 1 _ rfl
      obtain ⟨x0, hc0, _, w0⟩ := DataW.trod_int Try.underlying3 t0
      obtain ⟨x1, hc1, _, w1⟩ := DataW.trod_int Try.underlying3 t1
      cases hc0; cases hc1
      exact ⟨⟨x0, x1⟩, e0, e1⟩
    haveI : Inhabited Quad.Call := ⟨⟨0, 0⟩⟩
    obtain ⟨f, hfx⟩ := choose_lt hx
    obtain ⟨l, hll, hlf⟩ := list_of len f
    refine ⟨l, some a, cap, by rw [hll], by unfold maxLen at hm; omega, fun i p hp => ?_⟩
    obtain ⟨him, rfl⟩ := hlf i p hp
    obtain ⟨b, off, rfl, hbz⟩ := cell_zero (hfx 0 (by omega)).1
    obtain ⟨e0, e1⟩ := hfx i him
    rw [add_none] at e0 e1
    exact ⟨b, off, rfl, hbz, by simpa using e0, by simpa [Nat.add_assoc] using e1⟩

theorem open_calls {v : Value} {d : DataW H} {p : List MemPlace} (hv : ∃ a n c, v = .slice a n c) (h : DataW.Trod enc Try.prog w base spare held 24 v d p) :
    ∃ l : List (List Quad.Call), SlCalls w v l ∧ l.length ≤ 9223372036854775807 ∧ ∀ x ∈ l, x.length ≤ 9223372036854775807 := by
  obtain ⟨fuel, hf⟩ := h
  obtain ⟨a', n', c', rfl⟩ := hv
  rcases open_slice1 Try.underlying24 (by kernel_rfl) hf with ⟨hcs, _⟩ | ⟨a, len, cap, m, n, V, D, Pl, hcs, hb, hl, hm, hmm, hx, hi⟩
  · simp [Value.cells] at hcs
    obtain ⟨rfl, rfl, rfl⟩ := hcs
    exact ⟨[], ⟨none, 0, rfl, fun i p hp => by cases hp⟩, by simp, fun x hx => by cases hx⟩
  · simp [Value.cells] at hcs
    obtain ⟨rfl, rfl, rfl⟩ := hcs
    have hx : ∀ i, i < n' → ∃ l : List Quad.Call, w.cell? (a.add i) = some (V i) ∧ CallsCell w (V i) l := by
      intro i him
      obtain ⟨e0, t0⟩ := hi i (by rw [hmm]; split <;> omega)
      obtain ⟨l, hl⟩ := open_calls1 t0
      exact ⟨l, e0, hl⟩
    haveI : Inhabited (List Quad.Call) := ⟨[]⟩
    obtain ⟨f, hfx⟩ := choose_lt hx
    obtain ⟨l, hll, hlf⟩ := list_of n' f
    refine ⟨l, ⟨some a, c', by rw [hll], fun i p hp => ?_⟩, by unfold maxLen at hm; omega, fun x hx => ?_⟩
    · obtain ⟨him, rfl⟩ := hlf i p hp
      obtain ⟨b, off, rfl, hbz⟩ := cell_zero (hfx 0 (by omega)).1
      obtain ⟨e0, ia, icap, hV, _, hcs⟩ := hfx i him
      rw [add_none, hV] at e0
      exact ⟨b, off, ia, icap, rfl, hbz, e0, hcs⟩
    · obtain ⟨i, hi', e⟩ := List.getElem_of_mem hx
      obtain ⟨him, hxe⟩ := hlf i x (by rw [List.getElem?_eq_getElem hi', e])
      rw [hxe]
      obtain ⟨_, ia, icap, _, hle, _⟩ := hfx i him
      exact hle
end

end Go.Proofs.Ytpmoaajoaiabnaa
