/- Contracts of slices.Grow at nil and slices.Concat of two, at ints. -/
import Derived.Test.YtpmoaajoaiabnaaInts
namespace Go.Proofs.Ytpmoaajoaiabnaa
open Go.RowKit

theorem intInfo2 : (Try.prog.info? 3).map (fun i => (i.zero, i.size, i.bytes)) = some (some (.int .i64 0), 1, 8) := by kernel_rfl

def OwnPost (l : List Int) (w : World) (e : Ending) (w' : World) : Prop :=
  ∃ v, e = .returned v ∧ w'.ownsRow w.heap.size 3 1 v l.length (l.map (Value.int .i64)) ∧ Below w.heap.size w w'

theorem grow_zero (w : World) : Calls Try.prog 13 #[.slice none 0 0, .int .i64 0] w (OwnPost [] w) := by
  go_enter Try.func13, Try.ntmps13
  go_wp2
  go_ret
  exact ⟨_, rfl, World.ownsRow_nil _ _ _ _, Below.refl _ _⟩

/- append(nil, make([]T, n)...): a new row of n zero values and more. -/
theorem wpList_append_zeros_nil {P : Program} {w : World} {ops : Array Oper} {rest : List Oper} {o : Oper} {a : Act} {Q : Exit → Act → World → Prop} (hgd : o.guard = none) (s x : Operand) (t tn : TypeId)
    (ho : o.op = .call { callee := .builtin .append, args := #[s, x], argTypes := #[t, tn] })
    (e : TypeId) (i : TypeInfo) (z : Value) (ht : P.underlying t = some (.slice e)) (htn : P.underlying tn = some (.int .i64)) (hi : P.info? e = some i) (hz : i.zero = some z) (hsz : i.size = 1) (hzs : z.cells.size = 1)
    (n : Nat) (hs : a.eval s = .slice none 0 0) (hx : a.eval x = .int .i64 n) (h0 : 0 < n) (h63 : (n : Int) ≤ 9223372036854775807) (hby : n * i.bytes ≤ 281474976710656)
    (h : ∀ cap cur, n ≤ cap → cap ≤ maxLen → cur.size = cap → wpList P ops Q rest (a.put o.dst (.slice (some ⟨w.heap.size, 0, none⟩) n cap)) (w.drew.alloc (.cells cur e))) : wpList P ops Q (o :: rest) a w := by
  refine wpList_plain hgd fun K hK => ?_
  have hnx : Builtin.nextslicecap (0 + n) 0 = n := by unfold Builtin.nextslicecap; rw [if_pos (by omega)]; omega
  have hrun := Lib.run_append_grow_zeros (P := P) w t tn o.type e i z .i64 .i64 ht htn hi hz none 0 0 [] (by simp [Builtin.firstCells]) n h0 (by omega) (by omega) (by omega) (by omega) (by rw [hnx]; exact hby)
  have hge := grownCap_ge w (0 + n) 0 e
  have hle := grownCap_le_maxLen w (0 + n) 0 e (by unfold maxLen; omega)
  unfold Oper.wp
  simp only [Nat.zero_add] at hrun hge hle
  simp [execOp, ho, resolve, invoke, builtin, hs, hx, hrun, Result.andThen]
  refine hK _ _ ?_
  have := h (grownCap w n 0 e) (Builtin.zeroCells z.cells n ++ Builtin.zeroCells z.cells (grownCap w n 0 e - n)) hge hle (by simp [size_zeroCells, hzs]; omega)
  simpa using this

theorem grow_any (n : Nat) (w : World) (h0 : 0 < n) (hn : n ≤ 1000000) : Calls Try.prog 13 #[.slice none 0 0, .int .i64 n] w (OwnPost [] w) := by
  obtain ⟨i0, hi, hz0, hz1, hz2⟩ := info_parts intInfo2
  have hby : n * i0.bytes ≤ 281474976710656 := by rw [hz2]; omega
  go_enter Try.func13, Try.ntmps13
  go_wp2_with (at_builtin; refine wpList_append_zeros_nil rfl _ _ 32 3 rfl 3 i0 (.int .i64 0) Try.underlying32 Try.underlying3 hi hz0 hz1 rfl n rfl rfl h0 (by omega) hby ?_; intro cap cur hcap hmax hcur)
  go_ret
  refine ⟨_, rfl, ?_, ?_⟩
  · exact World.ownsRow_made w cur cap (Nat.le_refl _) hmax (by omega)
  · exact ((Below.refl _ _).alloc (Nat.le_refl _) _).drew

theorem grow_all (n : Nat) (w : World) (hn : n ≤ 1000000) : Calls Try.prog 13 #[.slice none 0 0, .int .i64 n] w (OwnPost [] w) := by
  rcases Nat.eq_zero_or_pos n with rfl | h
  · exact grow_zero w
  · exact grow_any n w h hn

set_option maxHeartbeats 1000000 in
theorem concat_any (sb so c : Nat) (v1 v2 : Value) (l1 l2 : List Int) (w : World) (hsb : sb < w.heap.size) (e1 : w.cell? ⟨sb, so, none⟩ = some v1) (e2 : w.cell? ⟨sb, so + 1, none⟩ = some v2) (h1 : SlInts w v1 l1) (h2 : SlInts w v2 l2) (hl1 : l1.length ≤ 1000) (hl2 : l2.length ≤ 1000) :
    Calls Try.prog 10 #[.slice (some ⟨sb, so, none⟩) 2 c] w (OwnPost (l1 ++ l2) w) := by
  obtain ⟨a1, c1, rfl, n1, H1⟩ := h1
  obtain ⟨a2, c2, rfl, n2, H2⟩ := h2
  obtain ⟨i0, hi, hz0, hz1, hz2⟩ := info_parts intInfo2
  have HA := Lib.hid H1
  have HB := Lib.hid H2
  have N1 := Lib.hid n1
  have N2 := Lib.hid n2
  clear H1 H2 n1 n2
  have G := grow_all (l1.length + l2.length) w (by omega)
  have GH := Lib.hid G
  clear G
  go_enter Try.func10, Try.ntmps10
  go_wp2
  refine wp_loop_rounds 3 ?_
  rw [rounds_succ]
  go_wp2
  rw [rounds_succ]
  go_wp2
  rw [rounds_succ]
  go_wp2_with fail
  refine (GH.out).mono ?_
  rintro e w1 ⟨v, rfl, hown, hb⟩
  have d1 := (hb.cell (p := ⟨sb, so, none⟩) hsb).trans e1
  have d2 := (hb.cell (p := ⟨sb, so + 1, none⟩) hsb).trans e2
  have hs1 := hb.size
  clear e1 e2
  go_wp2
  refine wp_loop_rounds 3 ?_
  rw [rounds_succ]
  have k1 : ∀ ad, a1 = some ad → ∀ j u, (l1.map (Value.int .i64))[j]? = some u → w1.cell? (ad.add j) = some u := by
    intro ad ha j u hu
    rw [List.getElem?_map] at hu
    cases hx : l1[j]? with
    | none => rw [hx] at hu; cases hu
    | some x =>
      rw [hx] at hu; cases hu
      obtain ⟨b, off, hab, hbl, hc⟩ := HA.out j x hx
      rw [ha] at hab; cases hab
      by_cases hj : j = 0
      · subst hj; simpa [Addr.add] using (hb.cell (p := ⟨b, off + 0, none⟩) hbl).trans hc
      · simpa [Addr.add, hj] using (hb.cell (p := ⟨b, off + j, none⟩) hbl).trans hc
  have k2 : ∀ w2 : World, (∀ b o, b < w.heap.size → w2.cell? ⟨b, o, none⟩ = w1.cell? ⟨b, o, none⟩) → ∀ ad, a2 = some ad → ∀ j u, (l2.map (Value.int .i64))[j]? = some u → w2.cell? (ad.add j) = some u := by
    intro w2 h2 ad ha j u hu
    rw [List.getElem?_map] at hu
    cases hx : l2[j]? with
    | none => rw [hx] at hu; cases hu
    | some x =>
      rw [hx] at hu; cases hu
      obtain ⟨b, off, hab, hbl, hc⟩ := HB.out j x hx
      rw [ha] at hab; cases hab
      have hcc := (h2 b (off + j) hbl).trans ((hb.cell (p := ⟨b, off + j, none⟩) hbl).trans hc)
      by_cases hj : j = 0
      · subst hj; simpa [Addr.add] using hcc
      · simpa [Addr.add, hj] using hcc
  have m1 : a1 = none → l1.length = 0 ∧ c1 = 0 := by
    intro h
    refine ⟨?_, N1.out h⟩
    cases hl : l1 with
    | nil => rfl
    | cons x r =>
      obtain ⟨b, off, hab, _⟩ := HA.out 0 x (by rw [hl]; rfl)
      rw [h] at hab; cases hab
  have m2 : a2 = none → l2.length = 0 ∧ c2 = 0 := by
    intro h
    refine ⟨?_, N2.out h⟩
    cases hl : l2 with
    | nil => rfl
    | cons x r =>
      obtain ⟨b, off, hab, _⟩ := HB.out 0 x (by rw [hl]; rfl)
      rw [h] at hab; cases hab
  have K1 := Lib.hid k1
  have K2 := Lib.hid k2
  have M1 := Lib.hid m1
  have M2 := Lib.hid m2
  have HW := Lib.hid hown
  clear k1 k2 m1 m2 hown
  have lt1 : ∀ j, v.ownBlock = some j → w.heap.size ≤ j := fun j h => (HW.out.lt j h).1
  have LT1 := Lib.hid lt1
  clear lt1
  have q1 : l1.length ≤ maxLen := by unfold maxLen; omega
  have q2 : l1.length + l2.length ≤ maxLen := by unfold maxLen; omega
  have q3 : l1.length * 8 ≤ 140737488355328 := by omega
  have q4 : (l1.length + l2.length) * 8 ≤ 140737488355328 := by omega
  have Q1 := Lib.hid (show 0 + l1.length ≤ maxLen by omega)
  have Q2 := Lib.hid q2
  have Q3 := Lib.hid (show (0 + l1.length) * 8 ≤ 140737488355328 by omega)
  have Q4 := Lib.hid q4
  clear q1 q2 q3 q4
  go_wp2_with (at_builtin; refine wpList_append_src rfl _ _ 32 rfl w.heap.size 3 i0 (.int .i64 0) 1 8 Try.underlying32 hi hz0 hz1 hz2 rfl (by decide) v 0 [] rfl HW.out a1 l1.length c1 (l1.map (Value.int .i64)) rfl (by simp) M1.out K1.out (fun u hu => by simp at hu; obtain ⟨_, _, rfl⟩ := hu; rfl) Q1.out Q3.out hs1 ?_; intro v2 w2 hown2 hgrow2)
  have hs2 := hgrow2.size
  have hb2 : Below w.heap.size w1 w2 := (Below.refl _ _).grown hgrow2 hs1 LT1.out
  have d3 := (hb2.cell (p := ⟨sb, so + 1, none⟩) hsb).trans d2
  have HK2 := Lib.hid (K2.out w2 (fun b o hbl => hb2.cell (p := ⟨b, o, none⟩) hbl))
  have HW2 := Lib.hid hown2
  have hs3 : w.heap.size ≤ w2.heap.size := by omega
  have HB2 := Lib.hid hb2
  have lt2 : ∀ j, v2.ownBlock = some j → w.heap.size ≤ j := fun j h => (HW2.out.lt j h).1
  have LT2 := Lib.hid lt2
  clear hown2 hgrow2 hb2 lt2 d1 d2
  rw [rounds_succ]
  have Q5 : Hid ((0 + l1.length) + l2.length ≤ maxLen) := Lib.hid (by have := Q2.out; omega)
  have Q6 : Hid (((0 + l1.length) + l2.length) * 8 ≤ 140737488355328) := Lib.hid (by have := Q4.out; omega)
  go_wp2_with (at_builtin; refine wpList_append_src rfl _ _ 32 rfl w.heap.size 3 i0 (.int .i64 0) 1 8 Try.underlying32 hi hz0 hz1 hz2 rfl (by decide) v2 (0 + l1.length) ([] ++ l1.map (Value.int .i64)) rfl HW2.out a2 l2.length c2 (l2.map (Value.int .i64)) rfl (by simp) M2.out HK2.out (fun u hu => by simp at hu; obtain ⟨_, _, rfl⟩ := hu; rfl) Q5.out Q6.out hs3 ?_; intro v3 w3 hown3 hgrow3)
  have HW3 := Lib.hid hown3
  have hb3 : Below w.heap.size w2 w3 := (Below.refl _ _).grown hgrow3 hs3 LT2.out
  have HB3 := Lib.hid hb3
  clear hown3 hgrow3 hb3
  rw [rounds_succ]
  go_wp2
  go_ret
  refine ⟨_, rfl, ?_, (hb.trans HB2.out).trans HB3.out⟩
  have := HW3.out
  simpa using this

end Go.Proofs.Ytpmoaajoaiabnaa
