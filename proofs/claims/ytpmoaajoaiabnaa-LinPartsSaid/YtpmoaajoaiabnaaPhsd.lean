/- phased: the fact that the laws ask first: it is true. -/
import Derived.Test.YtpmoaajoaiabnaaPhas
namespace Go.Proofs.Ytpmoaajoaiabnaa
open Go.RowKit

def TruePost (w : World) (e : Ending) (w' : World) : Prop := e = .returned (.bool true) ∧ Below w.heap.size w w'

theorem pcell {w : World} {b : Nat} {arr : Array Value} {t : TypeId} (h : w.heap[b]? = some (.cells arr t (0, 0))) (j : Nat) : w.cell? ⟨b, j, none⟩ = arr[j]? := by simp [World.cell?, h]
theorem pfree {w : World} {b : Nat} {arr : Array Value} {t : TypeId} (h : w.heap[b]? = some (.cells arr t (0, 0))) (j : Nat) : w.frozen? ⟨b, j, none⟩ = false := by simp [World.frozen?, h]
theorem plt {w : World} {b : Nat} {o : Obj} (h : w.heap[b]? = some o) : b < w.heap.size := (Array.getElem?_eq_some_iff.1 h).1
theorem set4 {w : World} {b : Nat} {a0 a1 a2 a3 : Value} {t : TypeId} (h : w.heap[b]? = some (.cells #[a0, a1, a2, a3] t (0, 0))) (x0 x1 x2 x3 : Value) :
    ((((w.setCell ⟨b, 0, none⟩ x0).setCell ⟨b, 1, none⟩ x1).setCell ⟨b, 2, none⟩ x2).setCell ⟨b, 3, none⟩ x3).heap[b]? = some (.cells #[x0, x1, x2, x3] t (0, 0)) := by
  simp only [World.setCell, Array.getElem?_modify, if_pos, h]
  rfl

set_option maxHeartbeats 1000000 in
theorem phased_any (w : World) : Calls Try.prog 4 #[] w (TruePost w) := by
  go_enter Try.func4, Try.ntmps4
  go_wp2_with fail
  refine (do_any false 0 2 2 7 0 _).mono ?_
  rintro e w1 ⟨hb1, hm1⟩
  have h1 : e = .returned (.tuple #[.agg #[.bool false, .int .i64 0, .int .i64 2, .int .i64 1], .int .i64 0, .nilIface]) := hm1
  clear hm1
  subst h1
  have B1 := (hb1.block w.heap.size (by simp)).trans (show (w.heap.push _)[w.heap.size]? = _ by rw [Array.getElem?_push, if_pos rfl])
  have hB1 : Below w.heap.size w w1 := ((Below.refl _ _).alloc (Nat.le_refl _) _).trans (hb1.mono (by simp))
  have q0 := pcell B1 0
  have q1 := pcell B1 1
  have q2 := pcell B1 2
  have q3 := pcell B1 3
  have z0 := pfree B1 0
  have z1 := pfree B1 1
  have z2 := pfree B1 2
  have z3 := pfree B1 3
  simp at q0 q1 q2 q3
  have l1 := plt B1
  clear hb1
  have K1 := Lib.hid B1
  clear B1
  go_wp2_with fail
  refine (do_any false 0 2 1 7 0 _).mono ?_
  rintro e w2 ⟨hb2, hm2⟩
  have h2 : e = .returned (.tuple #[.agg #[.bool false, .int .i64 1, .int .i64 2, .int .i64 2], .int .i64 0, .nilIface]) := hm2
  clear hm2
  subst h2
  have B2 := (hb2.block w.heap.size (by simpa using l1)).trans (set4 K1.out _ _ _ _)
  have hB2 : Below w.heap.size w w2 := by
    refine Below.trans ?_ (hb2.mono (by simp; omega))
    go_grown
  clear q0 q1 q2 q3 z0 z1 z2 z3
  have q0 := pcell B2 0
  have q1 := pcell B2 1
  have q2 := pcell B2 2
  have q3 := pcell B2 3
  have z0 := pfree B2 0
  have z1 := pfree B2 1
  have z2 := pfree B2 2
  have z3 := pfree B2 3
  simp at q0 q1 q2 q3
  have l2 := plt B2
  clear hb2
  have K2 := Lib.hid B2
  clear B2
  go_wp2_with fail
  refine (do_any false 1 2 2 10 1 _).mono ?_
  rintro e w3 ⟨hb3, hm3⟩
  have h3 : e = .returned (.tuple #[.agg #[.bool false, .int .i64 1, .int .i64 2, .int .i64 2], .int .i64 (-4), .nilIface]) := hm3
  clear hm3
  subst h3
  have B3 := (hb3.block w.heap.size (by simpa using l2)).trans (set4 K2.out _ _ _ _)
  have hB3 : Below w.heap.size w w3 := by
    refine Below.trans ?_ (hb3.mono (by simp; omega))
    go_grown
  clear q0 q1 q2 q3 z0 z1 z2 z3
  have q0 := pcell B3 0
  have q1 := pcell B3 1
  have q2 := pcell B3 2
  have q3 := pcell B3 3
  have z0 := pfree B3 0
  have z1 := pfree B3 1
  have z2 := pfree B3 2
  have z3 := pfree B3 3
  simp at q0 q1 q2 q3
  have l3 := plt B3
  clear hb3 B3
  go_wp2
  go_ret
  refine ⟨rfl, ?_⟩
  go_grown

end Go.Proofs.Ytpmoaajoaiabnaa
