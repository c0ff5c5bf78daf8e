/- The walk of LinParts. -/
import Derived.Test.YtpmoaajoaiabnaaRepl
import Derived.Test.YtpmoaajoaiabnaaConc
import Derived.Test.YtpmoaajoaiabnaaPhsd
import Derived.Test.YtpmoaajoaiabnaaLinp
namespace Go.Proofs.Ytpmoaajoaiabnaa
open Go.RowKit

theorem SlPs.pts {w : World} {v : Value} {l : List Quad.Point} (h : SlPs w v l) : SlPts w v l := by
  obtain ⟨a, cap, rfl, h⟩ := h
  cases hl : l with
  | nil => exact .inr ⟨rfl, a, cap, rfl⟩
  | cons x r =>
    obtain ⟨b, off, rfl, hb, _⟩ := h 0 x (by rw [hl]; rfl)
    refine .inl ⟨b, off, cap, rfl, hb, fun i p hp => ?_⟩
    obtain ⟨b', off', e, _, c⟩ := h i p (by rw [hl]; exact hp)
    cases e
    exact c

theorem SlPs.take {w : World} {a : Option Addr} {cap : Nat} {l : List Quad.Point} (h : SlPs w (.slice a l.length cap) l) (k : Nat) (hk : k ≤ l.length) (c : Nat) : SlPs w (.slice a k c) (l.take k) := by
  obtain ⟨a', cap', e, h⟩ := h
  cases e
  refine ⟨a, c, by rw [List.length_take, Nat.min_eq_left hk], fun i p hp => ?_⟩
  refine h i p ?_
  rw [List.getElem?_take] at hp
  split at hp
  · exact hp
  · cases hp

theorem SlPs.drop {w : World} {b off cap : Nat} {l : List Quad.Point} (h : SlPs w (.slice (some ⟨b, off, none⟩) l.length cap) l) (k : Nat) (a : Option Addr) (ha : k < l.length → a = some ⟨b, off + k * 4, none⟩) (c : Nat) : SlPs w (.slice a (l.length - k) c) (l.drop k) := by
  obtain ⟨a', cap', e, h⟩ := h
  cases e
  refine ⟨a, c, by rw [List.length_drop], fun i p hp => ?_⟩
  have hlt : k < l.length := by
    rcases Nat.lt_or_ge k l.length with h | h
    · exact h
    · rw [List.drop_eq_nil_of_le h] at hp; cases hp
  rw [List.getElem?_drop] at hp
  obtain ⟨b', off', e, hb, c0, c1, c2, c3⟩ := h (k + i) p hp
  cases e
  refine ⟨b, off + k * 4, ha hlt, hb, ?_, ?_, ?_, ?_⟩
  · rw [show off + k * 4 + i * 4 = off + (k + i) * 4 by omega]; exact c0
  · rw [show off + k * 4 + i * 4 = off + (k + i) * 4 by omega]; exact c1
  · rw [show off + k * 4 + i * 4 = off + (k + i) * 4 by omega]; exact c2
  · rw [show off + k * 4 + i * 4 = off + (k + i) * 4 by omega]; exact c3

theorem elemPts : Try.prog.elem 25 = 30 := by kernel_rfl
theorem sizePts (w : World) : (sizeOf 30).run Try.prog w = .ok 4 w := by kernel_rfl
theorem slice_from {w : World} {pa : Option Addr} {pts : List Quad.Point} {pcap n : Nat} (h : SlPs w (.slice pa pts.length pcap) pts) (hn : n ≤ pts.length) (hp : pts.length ≤ pcap) :
    ∃ A, (∀ w, Sem.run Try.prog (Instr.slice 25 (.slice pa pts.length pcap) (some (.int .i64 n)) none none) w = .ok (.slice A (pts.length - n) (pcap - n)) w) ∧ SlPs w (.slice A (pts.length - n) (pcap - n)) (pts.drop n) := by
  have ht : Try.prog.underlying 25 = some (.slice (Try.prog.elem 25)) := by rw [elemPts]; exact Try.underlying25
  refine ⟨if pcap = n then pa else pa.map (·.add (n * 4)), fun w => ?_, ?_⟩
  · rw [run_slice_l w _ pa pts.length pcap ht .i64 n (by omega) (by omega), elemPts, sizePts]
    simp [Result.andThen, sliced]
  · by_cases hc : pcap = n
    · rw [if_pos hc]
      have : pts.drop n = [] := List.drop_eq_nil_of_le (by omega)
      rw [this]
      refine ⟨pa, pcap - n, ?_, fun i p hp => by cases hp⟩
      rw [show pts.length - n = 0 by omega]; rfl
    · rw [if_neg hc]
      obtain ⟨a, cap, e, h⟩ := h
      cases e
      cases hpts : pts with
      | nil =>
        subst hpts
        refine ⟨pa.map (fun x => x.add (n * 4)), pcap - n, by rw [List.drop_nil]; simp, fun i p hp => ?_⟩
        rw [List.drop_nil] at hp; cases hp
      | cons x r =>
        rw [← hpts]
        obtain ⟨b, off, rfl, hb, _⟩ := h 0 x (by rw [hpts]; rfl)
        refine SlPs.drop (cap := pcap) (off := off) (b := b) ⟨_, _, rfl, h⟩ n _ (fun _ => ?_) _
        by_cases h0 : n * 4 = 0
        · simp [Addr.add, h0]
        · simp [Addr.add]
          omega

/- What stands behind the two first calls of Replay. -/
def Two (w : World) (g1 : Nat) (v1 : Value) (s1 s2 : Quad.RSt) (a b c : Value) (wx : World) : Prop :=
  ∃ g2 v2, a = .pointer (some ⟨g2, 0, none⟩) ∧ v2 = b ∧ c = .nilIface ∧ g1 ≠ g2 ∧ w.heap.size < g1 ∧ w.heap.size < g2 ∧ Below w.heap.size w wx ∧ wx.heap[g1]? = some (.cells (phCells s1.p) 23 (0, 0)) ∧ wx.heap[g2]? = some (.cells (phCells s2.p) 23 (0, 0)) ∧
    SlInts wx v1 s1.out ∧ SlInts wx v2 s2.out

theorem two_a {w w3 w4 : World} {s1 s2 : Quad.RSt} {v3 v4 : Value} {z0 z1 z2 z3 : Value} (h0 : Below w.heap.size w w3) (hlt : w.heap.size < w3.heap.size) (hs3 : SlInts w3 v3 s1.out)
    (hb4 : Below (((w3.alloc (.cells #[.bool s1.p.over, .int .i64 s1.p.phase, .int .i64 s1.p.parties, .int .i64 s1.p.waiting] 23)).alloc (.cells #[z0, z1, z2, z3] 23)).drew).heap.size (((w3.alloc (.cells #[.bool s1.p.over, .int .i64 s1.p.phase, .int .i64 s1.p.parties, .int .i64 s1.p.waiting] 23)).alloc (.cells #[z0, z1, z2, z3] 23)).drew) w4) {B4 : Nat} (ho4 : w4.ownsRow B4 3 1 v4 s2.out.length (s2.out.map (Value.int .i64))) (hB4 : w3.heap.size + 2 ≤ B4) :
    Two w w3.heap.size v3 s1 s2 (.pointer (some ⟨w3.heap.size + 1, 0, none⟩)) v4 .nilIface ((((w4.setCell ⟨w3.heap.size + 1, 0, none⟩ (.bool s2.p.over)).setCell ⟨w3.heap.size + 1, 1, none⟩ (.int .i64 s2.p.phase)).setCell ⟨w3.heap.size + 1, 2, none⟩ (.int .i64 s2.p.parties)).setCell ⟨w3.heap.size + 1, 3, none⟩ (.int .i64 s2.p.waiting)) := by
  have hz : w3.heap.size + 2 ≤ w4.heap.size := by have := hb4.size; simpa using this
  have e1 : w4.heap[w3.heap.size]? = some (.cells #[.bool s1.p.over, .int .i64 s1.p.phase, .int .i64 s1.p.parties, .int .i64 s1.p.waiting] 23) := (hb4.block _ (by simp; omega)).trans (by
    show ((w3.heap.push _).push _)[w3.heap.size]? = _
    rw [Array.getElem?_push, if_neg (by simp), Array.getElem?_push, if_pos rfl])
  have e2 : w4.heap[w3.heap.size + 1]? = some (.cells #[z0, z1, z2, z3] 23) := (hb4.block _ (by simp)).trans (by
    show ((w3.heap.push _).push _)[w3.heap.size + 1]? = _
    rw [Array.getElem?_push, if_pos (by simp)])
  have h34 : Below w3.heap.size w3 w4 := Below.trans (by go_grown) (hb4.mono (by simp; omega))
  have h4w : Below w3.heap.size w4 ((((w4.setCell ⟨w3.heap.size + 1, 0, none⟩ (.bool s2.p.over)).setCell ⟨w3.heap.size + 1, 1, none⟩ (.int .i64 s2.p.phase)).setCell ⟨w3.heap.size + 1, 2, none⟩ (.int .i64 s2.p.parties)).setCell ⟨w3.heap.size + 1, 3, none⟩ (.int .i64 s2.p.waiting)) := by go_grown
  refine ⟨w3.heap.size + 1, v4, rfl, rfl, rfl, by omega, by omega, by omega, ?_, ?_, ?_, ?_, ?_⟩
  · exact h0.trans ((h34.trans h4w).mono (by omega))
  · rw [Below.heap_setCell _ _ _ _ (by show w3.heap.size ≠ w3.heap.size + 1; omega), Below.heap_setCell _ _ _ _ (by show w3.heap.size ≠ w3.heap.size + 1; omega), Below.heap_setCell _ _ _ _ (by show w3.heap.size ≠ w3.heap.size + 1; omega), Below.heap_setCell _ _ _ _ (by show w3.heap.size ≠ w3.heap.size + 1; omega)]
    exact e1
  · exact set4 e2 _ _ _ _
  · exact SlInts.below hs3 (Nat.le_refl _) (h34.trans h4w)
  · refine SlInts.of_own (base := B4) ?_
    obtain ⟨h1, h2⟩ := ho4
    refine ⟨h1, ?_⟩
    rcases h2 with h2 | ⟨g, cap, cur, hv, hg, hh, r⟩
    · exact Or.inl h2
    · refine Or.inr ⟨g, cap, cur, hv, hg, ?_, r⟩
      have hne : g ≠ w3.heap.size + 1 := by omega
      rw [Below.heap_setCell _ _ _ _ (by exact hne), Below.heap_setCell _ _ _ _ (by exact hne), Below.heap_setCell _ _ _ _ (by exact hne), Below.heap_setCell _ _ _ _ (by exact hne)]
      exact hh

theorem two_b {w w3 w4 : World} {s1 s2 : Quad.RSt} {v3 v4 : Value} (h0 : Below w.heap.size w w3) (hlt : w.heap.size < w3.heap.size) (hs3 : SlInts w3 v3 s1.out)
    (hb4 : Below ((w3.alloc (.cells #[.bool s1.p.over, .int .i64 s1.p.phase, .int .i64 s1.p.parties, .int .i64 s1.p.waiting] 23)).drew).heap.size ((w3.alloc (.cells #[.bool s1.p.over, .int .i64 s1.p.phase, .int .i64 s1.p.parties, .int .i64 s1.p.waiting] 23)).drew) w4) (hs4 : SlInts w4 v4 s2.out) :
    Two w w3.heap.size v3 s1 s2 (.pointer (some ⟨w4.heap.size, 0, none⟩)) v4 .nilIface (w4.alloc (.cells #[.bool s2.p.over, .int .i64 s2.p.phase, .int .i64 s2.p.parties, .int .i64 s2.p.waiting] 23)) := by
  have hz : w3.heap.size + 1 ≤ w4.heap.size := by have := hb4.size; simpa using this
  have e1 : w4.heap[w3.heap.size]? = some (.cells #[.bool s1.p.over, .int .i64 s1.p.phase, .int .i64 s1.p.parties, .int .i64 s1.p.waiting] 23) := (hb4.block _ (by simp)).trans (by
    show (w3.heap.push _)[w3.heap.size]? = _
    rw [Array.getElem?_push, if_pos rfl])
  have h34 : Below w3.heap.size w3 w4 := Below.trans (by go_grown) (hb4.mono (by simp))
  have h4w : Below w4.heap.size w4 (w4.alloc (.cells #[.bool s2.p.over, .int .i64 s2.p.phase, .int .i64 s2.p.parties, .int .i64 s2.p.waiting] 23)) := by go_grown
  refine ⟨w4.heap.size, v4, rfl, rfl, rfl, by omega, by omega, by omega, ?_, ?_, ?_, ?_, ?_⟩
  · exact h0.trans ((h34.trans (h4w.mono (by omega))).mono (by omega))
  · rw [Below.heap_alloc _ _ _ (by omega)]; exact e1
  · show (w4.heap.push _)[w4.heap.size]? = _
    rw [Array.getElem?_push, if_pos rfl]; rfl
  · exact SlInts.below hs3 (Nat.le_refl _) (h34.trans (h4w.mono (by omega)))
  · exact SlInts.below hs4 (Nat.le_refl _) h4w

def Three (w : World) (_n g1 : Nat) (v1 v2 : Value) (s1 s2 : Quad.RSt) (p3 : Quad.Phase) (o3 : List Int) (a b c : Value) (wx : World) : Prop :=
  ∃ g3 v5, a = .pointer (some ⟨g3, 0, none⟩) ∧ v5 = b ∧ c = .nilIface ∧ Below w.heap.size w wx ∧ wx.heap[g1]? = some (.cells #[.bool s1.p.over, .int .i64 s1.p.phase, .int .i64 s1.p.parties, .int .i64 s1.p.waiting] 23 (0, 0)) ∧ wx.heap[g3]? = some (.cells #[.bool p3.over, .int .i64 p3.phase, .int .i64 p3.parties, .int .i64 p3.waiting] 23 (0, 0)) ∧
    SlInts wx v1 s1.out ∧ SlInts wx v2 s2.out ∧ SlInts wx v5 o3

theorem three_a {w wc w4 : World} {g1 : Nat} {s1 s2 : Quad.RSt} {p3 : Quad.Phase} {o3 : List Int} {v1 v2 v4 z0 z1 z2 z3 : Value} (h0 : Below w.heap.size w wc) (hlt : w.heap.size < wc.heap.size) (lg1 : g1 < wc.heap.size) (i1 : SlInts wc v1 s1.out) (i2 : SlInts wc v2 s2.out)
    (e1 : wc.heap[g1]? = some (.cells (phCells s1.p) 23 (0, 0))) (hb4 : Below ((wc.alloc (.cells #[z0, z1, z2, z3] 23)).drew).heap.size ((wc.alloc (.cells #[z0, z1, z2, z3] 23)).drew) w4) {B4 : Nat} (ho4 : w4.ownsRow B4 3 1 v4 o3.length (o3.map (Value.int .i64))) (hB4 : wc.heap.size + 1 ≤ B4) :
    Three w wc.heap.size g1 v1 v2 s1 s2 p3 o3 (.pointer (some ⟨wc.heap.size, 0, none⟩)) v4 .nilIface ((((w4.setCell ⟨wc.heap.size, 0, none⟩ (.bool p3.over)).setCell ⟨wc.heap.size, 1, none⟩ (.int .i64 p3.phase)).setCell ⟨wc.heap.size, 2, none⟩ (.int .i64 p3.parties)).setCell ⟨wc.heap.size, 3, none⟩ (.int .i64 p3.waiting)) := by
  have e2 : w4.heap[wc.heap.size]? = some (.cells #[z0, z1, z2, z3] 23) := (hb4.block _ (by simp)).trans (by
    show (wc.heap.push _)[wc.heap.size]? = _
    rw [Array.getElem?_push, if_pos rfl])
  have hz : wc.heap.size + 1 ≤ w4.heap.size := by have := hb4.size; simpa using this
  have h34 : Below wc.heap.size wc w4 := Below.trans (by go_grown) (hb4.mono (by simp))
  have h4w : Below wc.heap.size w4 ((((w4.setCell ⟨wc.heap.size, 0, none⟩ (.bool p3.over)).setCell ⟨wc.heap.size, 1, none⟩ (.int .i64 p3.phase)).setCell ⟨wc.heap.size, 2, none⟩ (.int .i64 p3.parties)).setCell ⟨wc.heap.size, 3, none⟩ (.int .i64 p3.waiting)) := by go_grown
  have hh := h34.trans h4w
  refine ⟨wc.heap.size, v4, rfl, rfl, rfl, h0.trans (hh.mono (by omega)), (hh.block _ lg1).trans e1, set4 e2 _ _ _ _, SlInts.below i1 (Nat.le_refl _) hh, SlInts.below i2 (Nat.le_refl _) hh, ?_⟩
  refine SlInts.of_own (base := B4) ?_
  obtain ⟨h1, h2⟩ := ho4
  refine ⟨h1, ?_⟩
  rcases h2 with h2 | ⟨g, cap, cur, hv, hg, hh, r⟩
  · exact Or.inl h2
  · refine Or.inr ⟨g, cap, cur, hv, hg, ?_, r⟩
    have hne : g ≠ wc.heap.size := by omega
    rw [Below.heap_setCell _ _ _ _ (by exact hne), Below.heap_setCell _ _ _ _ (by exact hne), Below.heap_setCell _ _ _ _ (by exact hne), Below.heap_setCell _ _ _ _ (by exact hne)]
    exact hh

theorem three_b {w wc w4 : World} {g1 : Nat} {s1 s2 : Quad.RSt} {p3 : Quad.Phase} {o3 : List Int} {v1 v2 v4 : Value} (h0 : Below w.heap.size w wc) (hlt : w.heap.size < wc.heap.size) (lg1 : g1 < wc.heap.size) (i1 : SlInts wc v1 s1.out) (i2 : SlInts wc v2 s2.out)
    (e1 : wc.heap[g1]? = some (.cells (phCells s1.p) 23 (0, 0))) (hb4 : Below (wc.drew).heap.size (wc.drew) w4) (hs4 : SlInts w4 v4 o3) :
    Three w wc.heap.size g1 v1 v2 s1 s2 p3 o3 (.pointer (some ⟨w4.heap.size, 0, none⟩)) v4 .nilIface (w4.alloc (.cells #[.bool p3.over, .int .i64 p3.phase, .int .i64 p3.parties, .int .i64 p3.waiting] 23)) := by
  have h34 : Below wc.heap.size wc w4 := Below.trans (by go_grown) (hb4.mono (by simp))
  have hz := h34.size
  have h4w : Below w4.heap.size w4 (w4.alloc (.cells #[.bool p3.over, .int .i64 p3.phase, .int .i64 p3.parties, .int .i64 p3.waiting] 23)) := by go_grown
  have hh := h34.trans (h4w.mono hz)
  refine ⟨w4.heap.size, v4, rfl, rfl, rfl, h0.trans (hh.mono (by omega)), (hh.block _ lg1).trans e1, ?_, SlInts.below i1 (Nat.le_refl _) hh, SlInts.below i2 (Nat.le_refl _) hh, SlInts.below hs4 (Nat.le_refl _) h4w⟩
  show (w4.heap.push _)[w4.heap.size]? = _
  rw [Array.getElem?_push, if_pos rfl]

set_option maxHeartbeats 4000000 in
set_option maxRecDepth 100000 in
theorem law_any (p : Quad.Phase) (calls : List (List Quad.Call)) (pts : List Quad.Point) (vc vp : Value) (k : Int) (w : World) (hc : SlCalls w vc calls) (hp : SlPs w vp pts) (hl1 : calls.length ≤ 9223372036854775807) (hl2 : pts.length ≤ 9223372036854775807) (hcl2 : ∀ l ∈ calls, l.length ≤ 9223372036854775807) (hcapl : ∀ a n c, vp = .slice a n c → n ≤ c) :
    Calls Try.prog 3 #[phv p, vc, vp, .int .i64 k] w (TruePost w) := by
  have HCS := Lib.hid hc
  have HPS := Lib.hid hp
  have HCL := Lib.hid hcl2
  obtain ⟨ca, ccap, rfl, _⟩ := hc
  obtain ⟨pa, pcap, rfl, _⟩ := hp
  have hcapl := hcapl _ _ _ rfl
  clear hcl2
  unfold phv
  by_cases h1 : 16 < calls.length
  · go_enter Try.func3, Try.ntmps3
    go_wp2_with (go_at_call 4; refine (phased_any _).mono ?_; rintro e w1 ⟨rfl, hb1⟩)
    go_ret
    exact ⟨rfl, ((Below.refl _ _).alloc (Nat.le_refl _) _).trans (hb1.mono (by simp))⟩
  · by_cases h2 : 60 < pts.length
    · go_enter Try.func3, Try.ntmps3
      go_wp2_with (go_at_call 4; refine (phased_any _).mono ?_; rintro e w1 ⟨rfl, hb1⟩)
      go_ret
      exact ⟨rfl, ((Below.refl _ _).alloc (Nat.le_refl _) _).trans (hb1.mono (by simp))⟩
    · have hpk0 := pickF_nonneg k (pts.length + 1) (by omega)
      have hpk1 := pickF_lt k (pts.length + 1) (by omega)
      obtain ⟨n, hn⟩ := Int.eq_ofNat_of_zero_le hpk0
      have hnl : n ≤ pts.length := by omega
      have HPK := Lib.hid hn
      clear hn hpk0 hpk1
      have hpcap : pts.length ≤ pcap := hcapl
      have hslx : ∃ A, (∀ w, Sem.run Try.prog (Instr.slice 25 (.slice pa pts.length pcap) (some (.int .i64 n)) none none) w = .ok (.slice A (pts.length - n) (pcap - n)) w) ∧ SlPs w (.slice A (pts.length - n) (pcap - n)) (pts.drop n) := slice_from HPS.out hnl hpcap
      obtain ⟨A, hsl, hsd⟩ := hslx
      have HSD := Lib.hid hsd
      clear hsd
      go_enter Try.func3, Try.ntmps3
      go_wp2_with fail
      refine (phased_any _).mono ?_
      rintro e w1 ⟨rfl, hb1⟩
      have B1 := (hb1.block w.heap.size (by simp)).trans (show (w.heap.push _)[w.heap.size]? = _ by rw [Array.getElem?_push, if_pos rfl])
      have hB1 : Below w.heap.size w w1 := ((Below.refl _ _).alloc (Nat.le_refl _) _).trans (hb1.mono (by simp))
      have lt1 := plt B1
      have q0 := pcell B1 0
      have q1 := pcell B1 1
      have q2 := pcell B1 2
      have q3 := pcell B1 3
      have z0 := pfree B1 0
      have z1 := pfree B1 1
      have z2 := pfree B1 2
      have z3 := pfree B1 3
      simp at q0 q1 q2 q3
      have K1 := Lib.hid B1
      have HB1 := Lib.hid hB1
      clear hb1 B1 hB1
      go_wp2_with fail
      refine (pick_any _ _ _ (by omega) (by omega)).mono ?_
      rintro e w1' ⟨rfl, rfl⟩
      rw [HPK.out]
      go_wp2_with fail
      refine (contains_any _ (pts.drop n) _ (SlPs.pts (SlPs.below HSD.out (Nat.le_refl _) HB1.out)) (by simp; omega)).mono ?_
      rintro e w2 ⟨b, rfl, hbl, hb2⟩
      cases b with
      | true =>
        go_wp2
        go_ret
        exact ⟨rfl, HB1.out.trans (hb2.mono (by have := HB1.out.size; omega))⟩
      | false =>
        have HLT := Lib.hid (hbl.1 rfl)
        have B2 := (hb2.block w.heap.size lt1).trans K1.out
        have hB2 : Below w.heap.size w w2 := HB1.out.trans (hb2.mono (by omega))
        clear q0 q1 q2 q3 z0 z1 z2 z3 hbl
        have q0 := pcell B2 0
        have q1 := pcell B2 1
        have q2 := pcell B2 2
        have q3 := pcell B2 3
        have z0 := pfree B2 0
        have z1 := pfree B2 1
        have z2 := pfree B2 2
        have z3 := pfree B2 3
        simp at q0 q1 q2 q3
        have lt2 := plt B2
        have K2 := Lib.hid B2
        have HB2 := Lib.hid hB2
        clear hb2 B2 hB2
        go_wp2_with fail
        refine (replay_any calls p pts _ _ _ (SlCalls.below HCS.out (Nat.le_refl _) HB2.out) (SlPs.below HPS.out (Nat.le_refl _) HB2.out) (by omega) (by omega) HCL.out).mono ?_
        rintro e w3 ⟨hb3, hm3⟩
        have B3 := (hb3.block w.heap.size lt2).trans K2.out
        have hB3 : Below w.heap.size w w3 := HB2.out.trans (hb3.mono (by omega))
        clear q0 q1 q2 q3 z0 z1 z2 z3
        have q0 := pcell B3 0
        have q1 := pcell B3 1
        have q2 := pcell B3 2
        have q3 := pcell B3 3
        have z0 := pfree B3 0
        have z1 := pfree B3 1
        have z2 := pfree B3 2
        have z3 := pfree B3 3
        simp at q0 q1 q2 q3
        have lt3 := plt B3
        have K3 := Lib.hid B3
        have HB3 := Lib.hid hB3
        have HS3 := Lib.hid hb3
        clear hb3 B3 hB3
        cases hr : Quad.runR calls (Quad.startR p) pts with
        | none =>
          rw [hr] at hm3
          obtain ⟨x3, rfl⟩ := hm3
          have HR := Lib.hid hr
          clear hr
          go_upto_region 9 with fail
          go_cut [12, 13, 14] (fun _ _ _ wx => Below w.heap.size w wx)
          case first =>
            cases hr2 : Quad.runR calls (Quad.startR p) (pts.take n) with
            | none =>
              have HR2 := Lib.hid hr2
              clear hr2
              go_region_with (go_at_call 8; refine (replay_any calls p (pts.take n) _ _ _ (SlCalls.below HCS.out (Nat.le_refl _) ?_) (SlPs.take (SlPs.below HPS.out (Nat.le_refl _) ?_) n hnl _) ?_ ?_ HCL.out).mono ?_; (focus (have h0 := HB3.out; have h1 := h0.size; go_grown)); (focus (have h0 := HB3.out; have h1 := h0.size; go_grown)); (focus (simp; omega)); (focus omega); rintro e w4 ⟨hb4, hm4⟩; rw [HR2.out] at hm4; obtain ⟨x4, rfl⟩ := hm4; obtain ⟨hc4, hf4⟩ := bcell hb4)
              all_goals (go_wp2_with fail; go_meet; have h0 := HB3.out; have h1 := h0.size; have h4 := hb4.size; have h5 : Below w.heap.size w w4 := (by refine Below.trans ?_ (hb4.mono (by simp; omega)); go_grown); (simp at h4; go_grown))
            | some s2 =>
              have HR2 := Lib.hid hr2
              clear hr2
              go_region_with (go_at_call 8; refine (replay_any calls p (pts.take n) _ _ _ (SlCalls.below HCS.out (Nat.le_refl _) ?_) (SlPs.take (SlPs.below HPS.out (Nat.le_refl _) ?_) n hnl _) ?_ ?_ HCL.out).mono ?_; (focus (have h0 := HB3.out; have h1 := h0.size; go_grown)); (focus (have h0 := HB3.out; have h1 := h0.size; go_grown)); (focus (simp; omega)); (focus omega); rintro e w4 ⟨hb4, hm4⟩; rw [HR2.out] at hm4; simp only [phv] at hm4; obtain ⟨v4, rfl, ho4⟩ := hm4; obtain ⟨hc4, hf4⟩ := bcell hb4)
              all_goals (go_wp2_with fail; go_meet; have h0 := HB3.out; have h1 := h0.size; have h4 := hb4.size; have h5 : Below w.heap.size w w4 := (by refine Below.trans ?_ (hb4.mono (by simp; omega)); go_grown); (simp at h4; go_grown))
          case rest =>
            go_wp2
            go_ret
            exact ⟨rfl, hcut⟩
        | some s1 =>
          rw [hr] at hm3
          simp only [phv] at hm3
          obtain ⟨v3, rfl, ho3⟩ := hm3
          cases hr2 : Quad.runR calls (Quad.startR p) (pts.take n) with
          | none => exact absurd (Quad.parts_none hr2) (by rw [hr]; simp)
          | some s2 =>
            have HO3 := Lib.hid (SlInts.of_own ho3)
            have HR := Lib.hid hr
            have HR2 := Lib.hid hr2
            clear hr hr2 ho3
            go_upto_region 9 with fail
            go_cut [12, 13, 14] (fun a b c wx => Two w w3.heap.size v3 s1 s2 a b c wx)
            case first =>
              go_region_with (go_at_call 8; refine (replay_any calls p (pts.take n) _ _ _ (SlCalls.below HCS.out (Nat.le_refl _) ?_) (SlPs.take (SlPs.below HPS.out (Nat.le_refl _) ?_) n hnl _) ?_ ?_ HCL.out).mono ?_; (focus (have h0 := HB3.out; have h1 := h0.size; go_grown)); (focus (have h0 := HB3.out; have h1 := h0.size; go_grown)); (focus (simp; omega)); (focus omega); rintro e w4 ⟨hb4, hm4⟩; rw [HR2.out] at hm4; simp only [phv] at hm4; obtain ⟨v4, rfl, ho4⟩ := hm4; obtain ⟨hc4, hf4⟩ := bcell hb4)
              all_goals (go_wp2_with fail; go_meet; first | (exact two_a HB3.out lt3 HO3.out hb4 ho4 (by simp)) | (exact two_b HB3.out lt3 HO3.out hb4 (SlInts.of_own ho4)))
            case rest =>
              obtain ⟨g2, v2, rfl, rfl, rfl, hg12, hg1, hg2, hbc, e1, e2, i1, i2⟩ := hcut
              obtain ⟨⟨p3, f3, o3⟩, hr3, hpq, hout⟩ := Quad.parts HLT.out HR.out HR2.out
              simp only at hpq hout
              subst hpq
              have HR3 := Lib.hid hr3
              have HOUT := Lib.hid hout
              have HBC := Lib.hid hbc
              have I1 := Lib.hid i1
              have I2 := Lib.hid i2
              have E1 := Lib.hid e1
              have E2 := Lib.hid e2
              have lg2 := plt e2
              have lg1 := plt e1
              clear hr3 hout hbc i1 i2 e1 e2 q0 q1 q2 q3 z0 z1 z2 z3
              have e2 : wc.heap[g2]? = some (.cells #[.bool s2.p.over, .int .i64 s2.p.phase, .int .i64 s2.p.parties, .int .i64 s2.p.waiting] 23 (0, 0)) := E2.out
              have q0 := pcell e2 0
              have q1 := pcell e2 1
              have q2 := pcell e2 2
              have q3 := pcell e2 3
              have z0 := pfree e2 0
              have z1 := pfree e2 1
              have z2 := pfree e2 2
              have z3 := pfree e2 3
              simp at q0 q1 q2 q3
              clear e2
              go_upto_region 12 with fail
              go_cut [15, 16, 17] (fun a b c wx => Three w wc.heap.size w3.heap.size v3 v2 s1 s2 s1.p o3 a b c wx)
              case first =>
                have hlt : w.heap.size < wc.heap.size := by omega
                go_region_with (go_at_call 8; refine (replay_any calls s2.p (pts.drop n) _ _ _ (SlCalls.below HCS.out (Nat.le_refl _) ?_) (SlPs.below HSD.out (Nat.le_refl _) ?_) ?_ ?_ HCL.out).mono ?_; (focus (have h0 := HBC.out; have h1 := h0.size; go_grown)); (focus (have h0 := HBC.out; have h1 := h0.size; go_grown)); (focus (simp; omega)); (focus omega); rintro e w4 ⟨hb4, hm4⟩; rw [HR3.out] at hm4; simp only [phv] at hm4; obtain ⟨v4, rfl, ho4⟩ := hm4; obtain ⟨hc4, hf4⟩ := bcell hb4)
                all_goals (go_wp2_with fail; go_meet; first | (exact three_a HBC.out hlt lg1 I1.out I2.out E1.out hb4 ho4 (by simp)) | (exact three_b HBC.out hlt lg1 I1.out I2.out E1.out hb4 (SlInts.of_own ho4)))
              case rest =>
                obtain ⟨g3, v5, rfl, rfl, rfl, hbc2, e1, e3, i1, i2, i3⟩ := hcut
                obtain ⟨a2, c2, rfl, n2, H2⟩ := i2
                obtain ⟨a3, c3, rfl, n3, H3⟩ := i3
                have J2 : SlInts wc (.slice a2 s2.out.length c2) s2.out := ⟨a2, c2, rfl, n2, H2⟩
                have J3 : SlInts wc (.slice a3 o3.length c3) o3 := ⟨a3, c3, rfl, n3, H3⟩
                clear H2 H3 n2 n3
                clear q0 q1 q2 q3 z0 z1 z2 z3
                have q0 := pcell e1 0
                have q1 := pcell e1 1
                have q2 := pcell e1 2
                have q3 := pcell e1 3
                have z0 := pfree e1 0
                have z1 := pfree e1 1
                have z2 := pfree e1 2
                have z3 := pfree e1 3
                simp at q0 q1 q2 q3
                have p0 := q0
                have p1 := q1
                have p2 := q2
                have p3' := q3
                clear q0 q1 q2 q3 z0 z1 z2 z3
                have q0 := pcell e3 0
                have q1 := pcell e3 1
                have q2 := pcell e3 2
                have q3 := pcell e3 3
                have z0 := pfree e3 0
                have z1 := pfree e3 1
                have z2 := pfree e3 2
                have z3 := pfree e3 3
                simp at q0 q1 q2 q3
                have hlen1 : s1.out.length ≤ 1000 := by have := Quad.runR_out calls _ _ _ HR.out; simp [Quad.startR] at this; omega
                have hlen2 : s2.out.length ≤ 1000 := by have := Quad.runR_out calls _ _ _ HR2.out; simp [Quad.startR] at this; omega
                have hlen3 : o3.length ≤ 1000 := by have := Quad.runR_out calls _ _ _ HR3.out; simp [Quad.startR] at this; omega
                have L1 := Lib.hid hlen1
                have L2 := Lib.hid hlen2
                have L3 := Lib.hid hlen3
                have HB2' := Lib.hid hbc2
                have JI := Lib.hid i1
                have JJ2 := Lib.hid J2
                have JJ3 := Lib.hid J3
                have hsz : w.heap.size ≤ wc.heap.size := hbc2.size
                clear hlen1 hlen2 hlen3 hbc2 i1 J2 J3
                go_wp2_with fail
                have hal : Below wc.heap.size wc (wc.alloc (.cells #[.slice a2 s2.out.length c2, .slice a3 o3.length c3] 32)) := by go_grown
                refine (concat_any wc.heap.size 0 2 _ _ s2.out o3 _ (by simp) (by simp [go_sem]) (by simp [go_sem]) (SlInts.below JJ2.out (Nat.le_refl _) hal) (SlInts.below JJ3.out (Nat.le_refl _) hal) L2.out L3.out).mono ?_
                rintro e w5 ⟨v6, rfl, ho6, hb5⟩
                have h5 : Below wc.heap.size wc w5 := hal.trans (hb5.mono (by simp))
                have HO6 := Lib.hid (SlInts.of_own ho6)
                have HB5 := Lib.hid h5
                have hsz5 := h5.size
                clear ho6 hb5 h5 hal
                go_wp2_with fail
                refine (equal_any v3 v6 s1.out (s2.out ++ o3) _ (SlInts.below JI.out (Nat.le_refl _) HB5.out) HO6.out (by have := L1.out; omega) (by have := L2.out; have := L3.out; simp; omega)).mono ?_
                rintro e w6 ⟨rfl, hb6⟩
                rw [decide_eq_true HOUT.out]
                go_wp2
                go_ret
                exact ⟨rfl, HB2'.out.trans ((HB5.out.trans (hb6.mono hsz5)).mono hsz)⟩

end Go.Proofs.Ytpmoaajoaiabnaa
