/- Contracts of slices.Equal, slices.Grow at nil and slices.Concat of two, at ints. -/
import Derived.Test.YtpmoaajoaiabnaaPts
import Derived.Lib.AppendZerosOnto
import Derived.Laws.AppendOwnNone
namespace Go.Proofs.Ytpmoaajoaiabnaa
open Go.RowKit

def SlInts (w : World) (v : Value) (l : List Int) : Prop :=
  ∃ a cap, v = .slice a l.length cap ∧ (a = none → cap = 0) ∧ ∀ i x, l[i]? = some x → ∃ b off, a = some ⟨b, off, none⟩ ∧ b < w.heap.size ∧ w.cell? ⟨b, off + i, none⟩ = some (.int .i64 x)

theorem SlInts.below {w w' : World} {v : Value} {l : List Int} (h : SlInts w v l) {B : Nat} (hB : w.heap.size ≤ B) (hb : Below B w w') : SlInts w' v l := by
  obtain ⟨a, cap, rfl, hn, h⟩ := h
  refine ⟨a, cap, rfl, hn, fun i x hx => ?_⟩
  obtain ⟨b, off, ha, hl, hc⟩ := h i x hx
  have := hb.size
  exact ⟨b, off, ha, by omega, (hb.cell (by show b < B; omega)).trans hc⟩

theorem SlInts.of_own {w : World} {base : Nat} {v : Value} {l : List Int} (h : w.ownsRow base 3 1 v l.length (l.map (Value.int .i64))) : SlInts w v l := by
  have hw := h
  have hlt := h.lt
  obtain ⟨h1, h2⟩ := h
  rcases h2 with ⟨hv, h0⟩ | ⟨g, cap, cur, hv, hg, hh, r⟩
  · exact ⟨none, 0, by rw [hv, h0], fun _ => rfl, fun i x hx => by
      have : l = [] := List.length_eq_zero_iff.1 h0
      subst this; cases hx⟩
  · subst hv
    refine ⟨_, cap, rfl, fun h => (by cases h), fun i x hx => ⟨g, 0, rfl, (hlt g rfl).2, ?_⟩⟩
    have := hw.cells (g := g) rfl i (.int .i64 x) (by rw [List.getElem?_map, hx]; rfl)
    rw [Nat.zero_add]
    by_cases hi0 : i = 0
    · subst hi0; simpa [Addr.add] using this
    · simpa [Addr.add, hi0] using this

def EqPost (b : Bool) (w : World) (e : Ending) (w' : World) : Prop := e = .returned (.bool b) ∧ Below w.heap.size w w'

set_option maxHeartbeats 1000000 in
theorem equal_any (v1 v2 : Value) (l1 l2 : List Int) (w : World) (h1 : SlInts w v1 l1) (h2 : SlInts w v2 l2) (hl1 : l1.length ≤ 9223372036854775807) (hl2 : l2.length ≤ 9223372036854775807) :
    Calls Try.prog 9 #[v1, v2] w (EqPost (decide (l1 = l2)) w) := by
  obtain ⟨a1, c1, rfl, _, H1⟩ := h1
  obtain ⟨a2, c2, rfl, _, H2⟩ := h2
  have HA := Lib.hid H1
  have HB := Lib.hid H2
  clear H1 H2
  by_cases hlen : l1.length = l2.length
  · have HL := Lib.hid hlen
    have hle : (((l1.length : Nat) : Int) != ((l2.length : Nat) : Int)) = false := by rw [hlen]; simp
    clear hlen
    go_enter Try.func9, Try.ntmps9
    go_wp2
    go_loopw [5, 13] (fun _ i wr => ∃ k : Nat, k ≤ l1.length ∧ i = .int .i64 k ∧ l1.take k = l2.take k ∧ Below w.heap.size w wr) (fun _ i _ => l1.length - (intOf i).toNat)
    case atStart => exact ⟨0, Nat.zero_le _, rfl, rfl, Below.refl _ _⟩
    case round =>
      obtain ⟨k, hk, rfl, ht, hnx⟩ := hrel
      have HT := Lib.hid ht
      clear ht
      by_cases hlt : k < l1.length
      · have hlt2 : k < l2.length := by have := HL.out; omega
        obtain ⟨x, hx⟩ : ∃ x, l1[k]? = some x := ⟨_, List.getElem?_eq_getElem hlt⟩
        obtain ⟨y, hy⟩ : ∃ y, l2[k]? = some y := ⟨_, List.getElem?_eq_getElem hlt2⟩
        obtain ⟨b1, o1, rfl, hb1, hc1⟩ := HA.out k x hx
        obtain ⟨b2, o2, rfl, hb2, hc2⟩ := HB.out k y hy
        have d1 := (hnx.cell (p := ⟨b1, o1 + k, none⟩) hb1).trans hc1
        have d2 := (hnx.cell (p := ⟨b2, o2 + k, none⟩) hb2).trans hc2
        have HX := Lib.hid hx
        have HY := Lib.hid hy
        clear hx hy hc1 hc2
        have i1 : (k : Int) < (l1.length : Int) := by omega
        have i2 : (k : Int) < (l2.length : Int) := by omega
        by_cases hxy : x = y
        · have hxy' : (x != y) = false := by simp [hxy]
          have HXY := Lib.hid hxy
          clear hxy
          go_wp2
          go_quiet (fail)
          go_wp2
          go_roundw
          case rel =>
            refine ⟨k + 1, by omega, by go_num, ?_, below_drewN hnx _⟩
            rw [List.take_add_one, List.take_add_one, HX.out, HY.out, HXY.out, HT.out]
          case measure => simp [intOf]; omega
        · have hxy' : (x != y) = true := by simpa using hxy
          go_wp2
          go_quiet (fail)
          go_wp2
          go_ret
          refine ⟨?_, below_drewN hnx _⟩
          have : l1 ≠ l2 := by
            rintro rfl
            have := HX.out.symm.trans HY.out
            exact hxy (Option.some.inj this)
          rw [decide_eq_false this]
          rfl
      · have hke : k = l1.length := by omega
        have HKE := Lib.hid hke
        clear hke
        have hge : (l1.length : Int) ≤ (k : Int) := by omega
        go_wp2
        go_ret
        refine ⟨?_, hnx⟩
        have : l1 = l2 := by
          have h := HT.out
          rw [HKE.out, List.take_length, HL.out, List.take_length] at h
          exact h
        rw [decide_eq_true this]
        rfl
  · have hle : (((l1.length : Nat) : Int) != ((l2.length : Nat) : Int)) = true := by simp; omega
    have HN := Lib.hid hlen
    clear hlen
    go_enter Try.func9, Try.ntmps9
    go_wp2
    go_ret
    refine ⟨?_, Below.refl _ _⟩
    have : l1 ≠ l2 := fun h => HN.out (by rw [h])
    rw [decide_eq_false this]
    rfl

/- append(s, x...) where s is the call's own and x is any slice, nil too. -/
theorem wpList_append_src {P : Program} {w : World} {ops : Array Oper} {rest : List Oper} {o : Oper} {a : Act} {Q : Exit → Act → World → Prop} (hgd : o.guard = none) (s x : Operand) (t : TypeId)
    (ho : o.op = .call { callee := .builtin .append, args := #[s, x], argTypes := #[t, t] })
    (base : Nat) (e : TypeId) (i : TypeInfo) (z : Value) (size bytes : Nat) (ht : P.underlying t = some (.slice e)) (hi : P.info? e = some i) (hz : i.zero = some z)
    (hsize : i.size = size) (hby : i.bytes = bytes) (hzs : z.cells.size = size) (hsz : 0 < size)
    (v : Value) (n : Nat) (xs : List Value) (hs : a.eval s = v) (hown : w.ownsRow base e size v n xs)
    (ao : Option Addr) (m c : Nat) (news : List Value) (hx : a.eval x = .slice ao m c) (hl : news.length = m * size) (hnone : ao = none → m = 0 ∧ c = 0)
    (hnews : ∀ ad, ao = some ad → ∀ j u, news[j]? = some u → w.cell? (ad.add j) = some u) (h1 : ∀ u ∈ news, u.oneCell' = true)
    (h63 : n + m ≤ maxLen) (hbytes : (n + m) * bytes ≤ 140737488355328) (hbase : base ≤ w.heap.size)
    (h : ∀ v' w', w'.ownsRow base e size v' (n + m) (xs ++ news) → w.grownBy w' v.ownBlock → wpList P ops Q rest (a.put o.dst v') w') : wpList P ops Q (o :: rest) a w := by
  cases ao with
  | none =>
    obtain ⟨rfl, rfl⟩ := hnone rfl
    have : news = [] := List.length_eq_zero_iff.1 (by simpa using hl)
    subst this
    exact wpList_append_own_none hgd s x t ho base e i size ht hi v n xs hs hown hx (h v w (by simpa using hown) ⟨rfl, rfl, rfl, Nat.le_refl _, fun _ _ _ => rfl⟩)
  | some ad =>
    exact wpList_append_own w hgd s x t ho base e i z size bytes ht hi hz hsize hby hzs hsz v n xs hs hown ad m c news hx hl (hnews ad rfl) h1 h63 hbytes hbase fun v' w' r1 r2 _ => h v' w' r1 r2


end Go.Proofs.Ytpmoaajoaiabnaa
