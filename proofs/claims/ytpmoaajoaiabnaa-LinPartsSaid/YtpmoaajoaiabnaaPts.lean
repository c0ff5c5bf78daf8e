/- Contracts of slices.IndexFunc, ContainsFunc at Late over points. -/
import Derived.Test.YtpmoaajoaiabnaaPhas
import Derived.LoopTactic
namespace Go.Proofs.Ytpmoaajoaiabnaa
open Go.RowKit

def PtsAt (w : World) (b off : Nat) (l : List Quad.Point) : Prop :=
  ∀ i p, l[i]? = some p → w.cell? ⟨b, off + i * 4, none⟩ = some (.int .i64 p.when_) ∧ w.cell? ⟨b, off + i * 4 + 1, none⟩ = some (.int .i64 p.thread) ∧ w.cell? ⟨b, off + i * 4 + 2, none⟩ = some (.int .i64 p.call) ∧ w.cell? ⟨b, off + i * 4 + 3, none⟩ = some (.bool p.late)

theorem late_any (a b c : Int) (d : Bool) (w : World) : Calls Try.prog 7 #[.agg #[.int .i64 a, .int .i64 b, .int .i64 c, .bool d]] w
    (BoolPost d (w.alloc (.cells #[.int .i64 a, .int .i64 b, .int .i64 c, .bool d] 30))) := by
  go_enter Try.func7, Try.ntmps7
  go_wp2
  go_ret
  exact ⟨rfl, rfl⟩

def IdxPost (l : List Quad.Point) (w : World) (e : Ending) (w' : World) : Prop :=
  ∃ n : Int, e = .returned (.int .i64 n) ∧ (n < 0 ↔ ∀ p ∈ l, p.late = false) ∧ -1 ≤ n ∧ Below w.heap.size w w'

theorem idx_end {l : List Quad.Point} (hno : ∀ (j : Nat) p, j < l.length → l[j]? = some p → p.late = false) : ∀ p ∈ l, p.late = false := by
  intro p hp
  obtain ⟨j, hj, e⟩ := List.getElem_of_mem hp
  exact hno j p hj (by rw [List.getElem?_eq_getElem hj, e])

/- A slice of points as it is handed in: at an address its cells, or empty. -/
def SlPts (w : World) (v : Value) (l : List Quad.Point) : Prop :=
  (∃ b off cap, v = .slice (some ⟨b, off, none⟩) l.length cap ∧ b < w.heap.size ∧ PtsAt w b off l) ∨ (l = [] ∧ ∃ a cap, v = .slice a 0 cap)

set_option maxHeartbeats 400000 in
theorem index_any (v : Value) (l : List Quad.Point) (w : World) (h : SlPts w v l) (hl : l.length ≤ 1000) :
    Calls Try.prog 12 #[v, .func (.func 7) #[] #[]] w (IdxPost l w) := by
  rcases h with ⟨b, off, cap, rfl, hb, h⟩ | ⟨rfl, a, cap, rfl⟩
  · go_enter Try.func12, Try.ntmps12
    go_wp2
    go_loopw [5, 8] (fun _ i wr => ∃ k : Nat, k ≤ l.length ∧ i = .int .i64 k ∧ (∀ j p, j < k → l[j]? = some p → p.late = false) ∧ Below w.heap.size w wr) (fun _ i _ => l.length - (intOf i).toNat)
    case atStart => exact ⟨0, Nat.zero_le _, rfl, fun j p hj => by omega, Below.refl _ _⟩
    case round =>
      obtain ⟨k, hk, rfl, hno, hnx⟩ := hrel
      have HNO := Lib.hid hno
      have HH := Lib.hid h
      clear hno h
      by_cases hlt : k < l.length
      · obtain ⟨p, hp⟩ : ∃ p, p = l[k] := ⟨_, rfl⟩
        have hp' : l[k]? = some p := by rw [hp]; exact List.getElem?_eq_getElem hlt
        obtain ⟨c0, c1, c2, c3⟩ := HH.out k p hp'
        have d0 := (hnx.cell (p := ⟨b, off + k * 4, none⟩) hb).trans c0
        have d1 := (hnx.cell (p := ⟨b, off + k * 4 + 1, none⟩) hb).trans c1
        have d2 := (hnx.cell (p := ⟨b, off + k * 4 + 2, none⟩) hb).trans c2
        have d3 := (hnx.cell (p := ⟨b, off + k * 4 + 3, none⟩) hb).trans c3
        have HP := Lib.hid hp
        have HP' := Lib.hid hp'
        clear hp hp' c0 c1 c2 c3
        have hsz := hnx.size
        cases hL : p.late with
        | true =>
          rw [hL] at d3
          go_wp2_with (go_at_call 7; refine (late_any _ _ _ _ _).mono ?_; rintro e w' ⟨rfl, rfl⟩)
          go_ret
          refine ⟨(k : Int), rfl, ⟨fun hneg => by omega, fun hall => ?_⟩, by omega, hnx.alloc (by omega) _⟩
          have := hall p (List.mem_of_getElem? HP'.out)
          rw [hL] at this; cases this
        | false =>
          rw [hL] at d3
          go_wp2_with (go_at_call 7; refine (late_any _ _ _ _ _).mono ?_; rintro e w' ⟨rfl, rfl⟩)
          go_roundw
          case rel =>
            refine ⟨k + 1, by omega, by go_num, ?_, hnx.alloc (by omega) _⟩
            intro j q hj hq
            by_cases hjk : j < k
            · exact HNO.out j q hjk hq
            · obtain rfl : j = k := by omega
              have := HP'.out.symm.trans hq
              cases this
              exact hL
          case measure => simp [intOf]; omega
      · obtain rfl : k = l.length := by omega
        go_wp2
        go_ret
        exact ⟨-1, rfl, ⟨fun _ => idx_end HNO.out, fun _ => by omega⟩, by omega, hnx⟩
  · go_enter Try.func12, Try.ntmps12
    go_wp2
    refine wp_loop_rounds 1 ?_
    rw [rounds_succ]
    go_wp2
    go_ret
    exact ⟨-1, rfl, ⟨fun _ p hp => (by cases hp), fun _ => by omega⟩, by omega, Below.refl _ _⟩

def ContPost (l : List Quad.Point) (w : World) (e : Ending) (w' : World) : Prop :=
  ∃ b : Bool, e = .returned (.bool b) ∧ (b = false ↔ ∀ p ∈ l, p.late = false) ∧ Below w.heap.size w w'

theorem contains_any (v : Value) (l : List Quad.Point) (w : World) (h : SlPts w v l) (hl : l.length ≤ 1000) :
    Calls Try.prog 6 #[v, .func (.func 7) #[] #[]] w (ContPost l w) := by
  have H := Lib.hid h
  clear h
  go_enter Try.func6, Try.ntmps6
  go_wp2_with fail
  refine (index_any v l w H.out hl).mono ?_
  rintro e w' ⟨n, rfl, hn, hn1, hb⟩
  have HN := Lib.hid hn
  clear hn
  go_wp2
  go_ret
  refine ⟨decide (0 ≤ n), ?_, ?_, hb⟩
  · rfl
  · rw [← HN.out]; simp

end Go.Proofs.Ytpmoaajoaiabnaa
