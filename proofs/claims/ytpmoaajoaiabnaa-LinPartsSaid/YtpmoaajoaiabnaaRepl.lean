/- lin.Replay's contract. -/
import Derived.Test.YtpmoaajoaiabnaaPts
import Derived.Test.YtpmoaajoaiabnaaMaps
import Derived.Test.YtpmoaajoaiabnaaRepd
import Derived.OneCell
import Derived.Deep.DeepCutAuto
import Derived.Deep.CutBlock
namespace Go.Proofs.Ytpmoaajoaiabnaa
open Go.RowKit Go.Maps

def SlPs (w : World) (v : Value) (l : List Quad.Point) : Prop :=
  ∃ a cap, v = .slice a l.length cap ∧ ∀ i p, l[i]? = some p → ∃ b off, a = some ⟨b, off, none⟩ ∧ b < w.heap.size ∧
    w.cell? ⟨b, off + i * 4, none⟩ = some (.int .i64 p.when_) ∧ w.cell? ⟨b, off + i * 4 + 1, none⟩ = some (.int .i64 p.thread) ∧ w.cell? ⟨b, off + i * 4 + 2, none⟩ = some (.int .i64 p.call) ∧ w.cell? ⟨b, off + i * 4 + 3, none⟩ = some (.bool p.late)

def SlCalls (w : World) (v : Value) (calls : List (List Quad.Call)) : Prop :=
  ∃ a cap, v = .slice a calls.length cap ∧ ∀ i l, calls[i]? = some l → ∃ cb coff ia icap, a = some ⟨cb, coff, none⟩ ∧ cb < w.heap.size ∧ w.cell? ⟨cb, coff + i, none⟩ = some (.slice ia l.length icap) ∧
    ∀ j c, l[j]? = some c → ∃ ib ioff, ia = some ⟨ib, ioff, none⟩ ∧ ib < w.heap.size ∧ w.cell? ⟨ib, ioff + j * 2, none⟩ = some (.int .i64 c.what) ∧ w.cell? ⟨ib, ioff + j * 2 + 1, none⟩ = some (.int .i64 c.n)

theorem SlPs.below {w w' : World} {v : Value} {l : List Quad.Point} (h : SlPs w v l) {B : Nat} (hB : w.heap.size ≤ B) (hb : Below B w w') : SlPs w' v l := by
  obtain ⟨a, cap, rfl, h⟩ := h
  refine ⟨a, cap, rfl, fun i p hp => ?_⟩
  obtain ⟨b, off, ha, hl, c0, c1, c2, c3⟩ := h i p hp
  have hs := hb.size
  exact ⟨b, off, ha, by omega, (hb.cell (by show b < B; omega)).trans c0, (hb.cell (by show b < B; omega)).trans c1, (hb.cell (by show b < B; omega)).trans c2, (hb.cell (by show b < B; omega)).trans c3⟩

theorem SlCalls.below {w w' : World} {v : Value} {l : List (List Quad.Call)} (h : SlCalls w v l) {B : Nat} (hB : w.heap.size ≤ B) (hb : Below B w w') : SlCalls w' v l := by
  obtain ⟨a, cap, rfl, h⟩ := h
  refine ⟨a, cap, rfl, fun i p hp => ?_⟩
  obtain ⟨cb, coff, ia, icap, ha, hl, hc, h2⟩ := h i p hp
  have hs := hb.size
  refine ⟨cb, coff, ia, icap, ha, by omega, (hb.cell (by show cb < B; omega)).trans hc, fun j c hj => ?_⟩
  obtain ⟨ib, ioff, e, hl2, d0, d1⟩ := h2 j c hj
  exact ⟨ib, ioff, e, by omega, (hb.cell (by show ib < B; omega)).trans d0, (hb.cell (by show ib < B; omega)).trans d1⟩

theorem blk_cell {w : World} {b : Nat} {arr : Array Value} {t : TypeId} (h : w.heap[b]? = some (.cells arr t (0, 0))) (j : Nat) : w.cell? ⟨b, j, none⟩ = arr[j]? := by simp [World.cell?, h]
theorem blk_free {w : World} {b : Nat} {arr : Array Value} {t : TypeId} (h : w.heap[b]? = some (.cells arr t (0, 0))) (j : Nat) : w.frozen? ⟨b, j, none⟩ = false := by simp [World.frozen?, h]
theorem blk_lt {w : World} {b : Nat} {o : Obj} (h : w.heap[b]? = some o) : b < w.heap.size := (Array.getElem?_eq_some_iff.1 h).1
theorem intInfo : (Try.prog.info? 3).map (fun i => (i.zero, i.size, i.bytes)) = some (some (.int .i64 0), 1, 8) := by kernel_rfl
def phCells (p : Quad.Phase) : Array Value := #[.bool p.over, .int .i64 p.phase, .int .i64 p.parties, .int .i64 p.waiting]
/- What a round of Replay finds: the state's block, the result's block, the map, the answers. -/
structure RInv (B : Nat) (w : World) (st : Quad.RSt) (n : Nat) (v : Value) (wr : World) : Prop where
  hp : wr.heap[B]? = some (.cells (phCells st.p) 23 (0, 0))
  hr : wr.heap[B + 1]? = some (.cells #[.bool false, .int .i64 0, .int .i64 0, .int .i64 0] 23 (0, 0))
  hm : MapFn wr (B + 2) n st.f
  ho : wr.ownsRow (B + 3) 3 1 v st.out.length (st.out.map (Value.int .i64))
  hb : Below B w wr
  hin : ∀ x ∈ st.out, in64 x

theorem ownsRow_below {W w1 : World} {base e size n : Nat} {v : Value} {xs : List Value} (h : W.ownsRow base e size v n xs) (hb : Below W.heap.size W w1) : w1.ownsRow base e size v n xs := by
  have hlt := h.lt
  obtain ⟨h1, h2⟩ := h
  refine ⟨h1, ?_⟩
  rcases h2 with h2 | ⟨g, cap, cur, hv, hg, hh, r⟩
  · exact Or.inl h2
  · have := hlt g (by simp [hv, Value.ownBlock])
    exact Or.inr ⟨g, cap, cur, hv, hg, (hb.block g this.2).trans hh, r⟩

theorem RInv.below {B : Nat} {w : World} {st : Quad.RSt} {n : Nat} {v : Value} {wr W : World} (h : RInv B w st n v wr) (hb : Below wr.heap.size wr W) : RInv B w st n v W where
  hp := (hb.block _ (blk_lt h.hp)).trans h.hp
  hr := (hb.block _ (blk_lt h.hr)).trans h.hr
  hm := h.hm.of_block (hb.block _ h.hm.lt)
  ho := ownsRow_below h.ho hb
  hb := h.hb.trans (hb.mono (by have := blk_lt h.hp; omega))
  hin := h.hin

theorem doF_in64 {p : Quad.Phase} {c : Quad.Call} {r : Quad.Phase × Int} (h : Quad.doF p c = some r) : in64 r.2 := by
  unfold Quad.doF at h
  split at h
  · rename_i hg
    have hr : 0 ≤ p.phase ∧ p.phase < 2147483648 ∧ 0 ≤ p.parties ∧ p.parties ≤ 65535 ∧ 0 ≤ p.waiting ∧ p.waiting ≤ p.parties := by simpa [Quad.right] using hg.1
    have hx : -4 ≤ r.2 ∧ r.2 < 2147483648 := by
      cases h
      (repeat' split) <;> simp only <;> omega
    exact in64_of (by omega) (by omega)
  · cases h

/- A round's stores: the state, then the map. -/
theorem round_ok {B : Nat} {w : World} {st : Quad.RSt} {k : Nat} {v : Value} {w1 : World} (h : RInv B w st k v w1) (hk : k < 100000) (q : Quad.Phase) {t c a : Int} (ht : in64 t) (hc : in64 c) (ha : in64 a):
    ∃ w2, Sem.run Try.prog (Instr.mapUpdate 46 (.map (some (B + 1 + 1))) (.agg #[.int .i64 t, .int .i64 c]) (.int .i64 a)) ((((((w1.setCell ⟨B, 0, none⟩ (.bool q.over)).setCell ⟨B, 1, none⟩ (.int .i64 q.phase)).setCell ⟨B, 2, none⟩ (.int .i64 q.parties)).setCell ⟨B, 3, none⟩ (.int .i64 q.waiting)).alloc
        (.cells #[.bool q.over, .int .i64 q.phase, .int .i64 q.parties, .int .i64 q.waiting] 23)).drew) = .ok () w2 ∧
      RInv B w ⟨q, fun t' c' => if t' = t ∧ c' = c then some a else st.f t' c', st.out⟩ (k + 1) v w2 := by
  have hl := blk_lt h.hp
  have hl1 := blk_lt h.hr
  have hl2 := h.hm.lt
  generalize hW : ((((((w1.setCell ⟨B, 0, none⟩ (.bool q.over)).setCell ⟨B, 1, none⟩ (.int .i64 q.phase)).setCell ⟨B, 2, none⟩ (.int .i64 q.parties)).setCell ⟨B, 3, none⟩ (.int .i64 q.waiting)).alloc
        (.cells #[.bool q.over, .int .i64 q.phase, .int .i64 q.parties, .int .i64 q.waiting] 23)).drew) = W
  have hoth : ∀ j, j ≠ B → j < w1.heap.size → W.heap[j]? = w1.heap[j]? := by
    intro j hj hjl
    subst hW
    show (World.alloc _ _).heap[j]? = _
    rw [Below.heap_alloc _ _ _ (by simpa using hjl), Below.heap_setCell _ _ _ _ hj, Below.heap_setCell _ _ _ _ hj, Below.heap_setCell _ _ _ _ hj, Below.heap_setCell _ _ _ _ hj]
  have hself : W.heap[B]? = some (.cells (phCells q) 23 (0, 0)) := by
    subst hW
    show (World.alloc _ _).heap[B]? = _
    rw [Below.heap_alloc _ _ _ (by simpa using hl)]
    have := h.hp
    simp only [World.setCell, Array.getElem?_modify, if_pos, this]
    rfl
  have hbW : Below B w W := by
    subst hW
    have := h.hb
    have hs := this.size
    repeat' (first | (with_reducible exact Below.refl _ _) | (with_reducible assumption) | (with_reducible refine Below.alloc ?_ ?_ _) | (with_reducible refine Below.drew ?_) | (with_reducible refine below_drewN ?_ _) | (with_reducible refine Below.setCell ?_ ?_ _) | go_size | (simp <;> omega))
  have hmW : MapFn W (B + 2) k st.f := h.hm.of_block (hoth _ (by omega) hl2)
  have hoW : W.ownsRow (B + 3) 3 1 v st.out.length (st.out.map (Value.int .i64)) := by
    have hlt := h.ho.lt
    obtain ⟨h1, h2⟩ := h.ho
    refine ⟨h1, ?_⟩
    rcases h2 with h2 | ⟨g, cap, cur, hv, hg, hh, r⟩
    · exact Or.inl h2
    · have := hlt g (by simp [hv, Value.ownBlock])
      exact Or.inr ⟨g, cap, cur, hv, hg, (hoth g (by omega) this.2).trans hh, r⟩
  obtain ⟨w2, hrun, hmf, hg⟩ := hmW.store (by unfold maxLen; omega) ht hc ha
  have hsz : w1.heap.size ≤ W.heap.size := by subst hW; simp
  refine ⟨w2, hrun, ⟨?_, ?_, hmf, ?_, ?_, h.hin⟩⟩
  · exact (hg.block B (by omega) (by intro e; have := Option.some.inj e; omega)).trans hself
  · exact (hg.block (B + 1) (by omega) (by intro e; have := Option.some.inj e; omega)).trans ((hoth _ (by omega) hl1).trans h.hr)
  · have hlt := hoW.lt
    refine hoW.kept hg ?_
    cases hb : v.ownBlock with
    | none => exact Or.inl rfl
    | some g =>
      have := hlt g hb
      exact Or.inr (by intro e; have := Option.some.inj e; omega)
  · exact hbW.grown hg (by omega) (by intro j e; have := Option.some.inj e; omega)

theorem round_end {B : Nat} {w : World} {q : Quad.Phase} {f : Int → Int → Option Int} {out : List Int} {k : Nat} {v v' : Value} {w2 w3 : World} {a : Int} (h : RInv B w ⟨q, f, out⟩ k v w2) (ha : in64 a)
    (ho : w3.ownsRow (B + 3) 3 1 v' (out.length + 1) (out.map (Value.int .i64) ++ [.int .i64 a])) (hg : (w2.alloc (.cells #[.int .i64 a] 3)).grownBy w3 v.ownBlock) :
    RInv B w ⟨q, f, out ++ [a]⟩ k v' w3 := by
  have hl := blk_lt h.hp
  have hl1 := blk_lt h.hr
  have hl2 := h.hm.lt
  have hlt := h.ho.lt
  have hne : ∀ j, j < B + 3 → some j ≠ v.ownBlock := by
    intro j hj e
    have := hlt j e.symm
    omega
  have hblk : ∀ j, j < B + 3 → j < w2.heap.size → w3.heap[j]? = w2.heap[j]? := fun j hj hjl =>
    (hg.block j (by simp; omega) (hne j hj)).trans (Below.heap_alloc _ _ _ hjl)
  refine ⟨(hblk _ (by omega) hl).trans h.hp, (hblk _ (by omega) hl1).trans h.hr, h.hm.of_block (hblk _ (by omega) hl2), by simpa using ho, ?_, ?_⟩
  · refine Below.grown (Below.alloc h.hb (by omega) _) hg (by simp; omega) ?_
    intro j e
    have := hlt j e
    omega
  · intro x hx
    rcases List.mem_append.1 hx with h1 | h1
    · exact h.hin x h1
    · simp at h1; subst h1; exact ha

/- Behind the stores of the result the answers are what they were. -/
theorem exit_own {w wr : World} {st : Quad.RSt} {k : Nat} {v a b c d : Value} (h : RInv w.heap.size w st k v wr) :
    ((((wr.setCell ⟨w.heap.size + 1, 0, none⟩ a).setCell ⟨w.heap.size + 1, 1, none⟩ b).setCell ⟨w.heap.size + 1, 2, none⟩ c).setCell ⟨w.heap.size + 1, 3, none⟩ d).ownsRow w.heap.size 3 1 v st.out.length (st.out.map (Value.int .i64)) := by
  obtain ⟨h1, h2⟩ := h.ho
  refine ⟨h1, ?_⟩
  rcases h2 with h2 | ⟨g, cap, cur, hv, hg, hh, r⟩
  · exact Or.inl h2
  · refine Or.inr ⟨g, cap, cur, hv, by omega, ?_, r⟩
    rw [Below.heap_setCell _ _ _ _ (by show g ≠ w.heap.size + 1; omega), Below.heap_setCell _ _ _ _ (by show g ≠ w.heap.size + 1; omega), Below.heap_setCell _ _ _ _ (by show g ≠ w.heap.size + 1; omega), Below.heap_setCell _ _ _ _ (by show g ≠ w.heap.size + 1; omega)]
    exact hh

theorem start_inv (w : World) (p : Quad.Phase) : RInv w.heap.size w (Quad.startR p) 0 (.slice none 0 0) (((w.alloc (.cells (phCells p) 23)).alloc (.cells #[.bool false, .int .i64 0, .int .i64 0, .int .i64 0] 23)).alloc (.map #[] 0)) where
  hp := by
    rw [Below.heap_alloc _ _ _ (by simp; omega), Below.heap_alloc _ _ _ (by simp)]
    show (w.heap.push _)[w.heap.size]? = _
    rw [Array.getElem?_push, if_pos rfl]; rfl
  hr := by
    rw [Below.heap_alloc _ _ _ (by simp)]
    show ((w.heap.push _).push _)[w.heap.size + 1]? = _
    rw [Array.getElem?_push, if_pos (by simp)]
  hm := by
    have := mapFn_made ((w.alloc (.cells (phCells p) 23)).alloc (.cells #[.bool false, .int .i64 0, .int .i64 0, .int .i64 0] 23))
    simpa [Quad.startR] using this
  ho := World.ownsRow_nil _ _ _ _
  hb := by repeat' (first | (with_reducible exact Below.refl _ _) | (with_reducible assumption) | (with_reducible refine Below.alloc ?_ ?_ _) | (with_reducible refine Below.drew ?_) | (with_reducible refine below_drewN ?_ _) | (with_reducible refine Below.setCell ?_ ?_ _) | go_size | (simp <;> omega))
  hin := by simp [Quad.startR]

theorem runR_none' {calls : List (List Quad.Call)} {l : List Quad.Point} {k : Nat} {x : Quad.Point} {s s1 : Quad.RSt} (hk : l[k]? = some x) (h : Quad.runR calls s (l.take k) = some s1) (hn : Quad.stepR calls s1 x = none) : Quad.runR calls s l = none :=
  Quad.runR_none (k := k + 1) ((Quad.runR_step hk h).trans hn)

def ReplayPost (calls : List (List Quad.Call)) (p : Quad.Phase) (pts : List Quad.Point) (w : World) (e : Ending) (w' : World) : Prop :=
  Below w.heap.size w w' ∧ match Quad.runR calls (Quad.startR p) pts with
    | some s => (∃ v, e = .returned (.tuple #[phv s.p, v, .nilIface]) ∧ w'.ownsRow w.heap.size 3 1 v s.out.length (s.out.map (Value.int .i64)))
    | none => ∃ x, e = .returned (.tuple #[.agg #[.bool false, .int .i64 0, .int .i64 0, .int .i64 0], .slice none 0 0, .iface 48 x])

set_option maxHeartbeats 4000000 in
set_option maxRecDepth 100000 in
theorem replay_any (calls : List (List Quad.Call)) (p : Quad.Phase) (pts : List Quad.Point) (vc vp : Value) (w : World) (hc : SlCalls w vc calls) (hp : SlPs w vp pts) (hl : pts.length ≤ 1000) (hcl : calls.length ≤ 1000) (hcl2 : ∀ l ∈ calls, l.length ≤ 9223372036854775807) :
    Calls Try.prog 8 #[phv p, vc, vp] w (ReplayPost calls p pts w) := by
  obtain ⟨ca, ccap, rfl, HC0⟩ := hc
  obtain ⟨pa, pcap, rfl, HP0⟩ := hp
  have HC := Lib.hid HC0
  have HP := Lib.hid HP0
  have HCL := Lib.hid hcl2
  clear HC0 HP0 hcl2
  have hmm := run_makeMap'
  unfold phv
  go_enter Try.func8, Try.ntmps8
  go_wp2
  go_loopw [10, 21] (fun v i wr => ∃ (k : Nat) (st : Quad.RSt), k ≤ pts.length ∧ i = .int .i64 k ∧ Quad.runR calls (Quad.startR p) (pts.take k) = some st ∧ RInv w.heap.size w st k v wr) (fun _ i _ => pts.length - (intOf i).toNat)
  case atStart =>
    exact ⟨0, Quad.startR p, Nat.zero_le _, rfl, rfl, start_inv w p⟩
  case round =>
    obtain ⟨k, st, hk, rfl, hst, hI⟩ := hrel
    have HST := Lib.hid hst
    have HI := Lib.hid hI
    clear hst hI
    by_cases hlt : k < pts.length
    · obtain ⟨x, hx⟩ : ∃ x, x = pts[k] := ⟨_, rfl⟩
      have hx' : pts[k]? = some x := by rw [hx]; exact List.getElem?_eq_getElem hlt
      obtain ⟨pb, poff, rfl, hpl, c0, c1, c2, c3⟩ := HP.out k x hx'
      have hnx := HI.out.hb
      have d0 := (hnx.cell (p := ⟨pb, poff + k * 4, none⟩) hpl).trans c0
      have d1 := (hnx.cell (p := ⟨pb, poff + k * 4 + 1, none⟩) hpl).trans c1
      have d2 := (hnx.cell (p := ⟨pb, poff + k * 4 + 2, none⟩) hpl).trans c2
      have d3 := (hnx.cell (p := ⟨pb, poff + k * 4 + 3, none⟩) hpl).trans c3
      have HX := Lib.hid hx'
      clear hx hx' c0 c1 c2 c3
      have hsz := HI.out.hm.lt
      have hl0 : w.heap.size < wr.heap.size := by omega
      have hl1 : w.heap.size + 1 < wr.heap.size := by omega
      have hl2 : pb < wr.heap.size := by omega
      have HB := Lib.hid hnx
      clear hnx
      have r0 := blk_cell HI.out.hr 0
      have r1 := blk_cell HI.out.hr 1
      have r2 := blk_cell HI.out.hr 2
      have r3 := blk_cell HI.out.hr 3
      have s0 := blk_free HI.out.hr 0
      have s1 := blk_free HI.out.hr 1
      have s2 := blk_free HI.out.hr 2
      have s3 := blk_free HI.out.hr 3
      simp at r0 r1 r2 r3
      obtain ⟨wh, th, cl, late⟩ := x
      simp only at d0 d1 d2 d3
      have hcall : ∀ c, Quad.callAt calls th cl = some c → 0 ≤ th ∧ 0 ≤ cl ∧ ∃ l, calls[th.toNat]? = some l ∧ l[cl.toNat]? = some c := by
        intro c h
        unfold Quad.callAt at h
        split at h
        · rename_i h0
          cases e : calls[th.toNat]? with
          | none => rw [e] at h; cases h
          | some l => rw [e] at h; exact ⟨h0.1, h0.2, l, rfl, h⟩
        · cases h
      have HCA := Lib.hid hcall
      clear hcall
      have hB : Below w.heap.size w wr := HB.out
      go_upto_region 6 with fail
      go_cut [51] (fun b wx => b = .bool (Quad.callAt calls th cl).isNone ∧ ∃ n, wx = (wr.alloc (.cells #[.int .i64 wh, .int .i64 th, .int .i64 cl, .bool late] 30)).drewN n)
      case first =>
        by_cases g1 : th < 0
        · have g1' : decide (th < 0) = true := by simpa using g1
          have hca : Quad.callAt calls th cl = none := by unfold Quad.callAt; rw [if_neg (by omega)]
          have HCN := Lib.hid hca
          clear hca
          go_quiet (fail)
          go_wp2
          go_meet
          exact ⟨by rw [HCN.out]; rfl, nq, rfl⟩
        · have g1' : decide (th < 0) = false := by simpa using g1
          have g1p : 0 ≤ th := by omega
          obtain ⟨tn, rfl⟩ := Int.eq_ofNat_of_zero_le g1p
          by_cases g2 : (calls.length : Int) ≤ (tn : Int)
          · have g2' : decide ((calls.length : Int) ≤ (tn : Int)) = true := by simpa using g2
            have hca : Quad.callAt calls (tn : Int) cl = none := by
              unfold Quad.callAt
              split
              · rw [Int.toNat_natCast, List.getElem?_eq_none (by omega)]; rfl
              · rfl
            have HCN := Lib.hid hca
            clear hca
            go_quiet (fail)
            go_wp2
            go_meet
            exact ⟨by rw [HCN.out]; rfl, nq, rfl⟩
          · have g2' : decide ((calls.length : Int) ≤ (tn : Int)) = false := by simpa using g2
            by_cases g3 : cl < 0
            · have g3' : decide (cl < 0) = true := by simpa using g3
              have hca : Quad.callAt calls (tn : Int) cl = none := by unfold Quad.callAt; rw [if_neg (by omega)]
              have HCN := Lib.hid hca
              clear hca
              go_quiet (fail)
              go_wp2
              go_meet
              exact ⟨by rw [HCN.out]; rfl, nq, rfl⟩
            · have g3' : decide (cl < 0) = false := by simpa using g3
              have g3p : 0 ≤ cl := by omega
              obtain ⟨cn, rfl⟩ := Int.eq_ofNat_of_zero_le g3p
              have htn : tn < calls.length := by omega
              obtain ⟨cb, coff, ia, icap, rfl, hcb, hcc, _⟩ := HC.out tn calls[tn] (List.getElem?_eq_getElem htn)
              have e1 := (hB.cell (p := ⟨cb, coff + tn, none⟩) hcb).trans hcc
              have hcb' : cb < wr.heap.size := by omega
              have hca : (Quad.callAt calls (tn : Int) (cn : Int)).isNone = decide ((calls[tn].length : Int) ≤ (cn : Int)) := by
                unfold Quad.callAt
                rw [if_pos ⟨by omega, by omega⟩, Int.toNat_natCast, Int.toNat_natCast, List.getElem?_eq_getElem htn]
                simp only [Option.bind_some]
                by_cases h : calls[tn].length ≤ cn
                · rw [List.getElem?_eq_none h, decide_eq_true (by omega)]; rfl
                · rw [List.getElem?_eq_getElem (by omega), decide_eq_false (by omega)]; rfl
              generalize hIL : calls[tn].length = il at *
              have HCN := Lib.hid hca
              clear hIL hcc hca
              by_cases g4 : (il : Int) ≤ (cn : Int)
              · have g4' : decide ((il : Int) ≤ (cn : Int)) = true := by simpa using g4
                go_quiet (fail)
                go_wp2
                go_meet
                exact ⟨by rw [HCN.out, g4'], nq, rfl⟩
              · have g4' : decide ((il : Int) ≤ (cn : Int)) = false := by simpa using g4
                go_quiet (fail)
                go_wp2
                go_meet
                exact ⟨by rw [HCN.out, g4'], nq, rfl⟩
      case rest =>
        obtain ⟨rfl, nq, rfl⟩ := hcut
        cases hca : Quad.callAt calls th cl with
        | none =>
          have hnone : Quad.runR calls (Quad.startR p) pts = none := runR_none' HX.out HST.out (by simp [Quad.stepR, hca])
          have HN := Lib.hid hnone
          have HCA2 := Lib.hid hca
          clear hnone
          simp only [Option.isNone_none]
          go_wp2
          refine bodyPost_ret (by simp [results, Try.results8, go_sem, hl0, hl1, r0, r1, r2, r3]; rfl) rfl ⟨?_, ?_⟩; (repeat' (first | (with_reducible exact Below.refl _ _) | (with_reducible assumption) | (with_reducible refine Below.alloc ?_ ?_ _) | (with_reducible refine Below.drew ?_) | (with_reducible refine below_drewN ?_ _) | (with_reducible refine Below.setCell ?_ ?_ _) | go_size | (simp <;> omega))); rw [HN.out]; exact ⟨_, rfl⟩
        | some c =>
          simp only [Option.isNone_some]
          obtain ⟨h0t, h0c, l, hl1', hl2'⟩ := HCA.out c hca
          obtain ⟨tn, rfl⟩ := Int.eq_ofNat_of_zero_le h0t
          obtain ⟨cn, rfl⟩ := Int.eq_ofNat_of_zero_le h0c
          rw [Int.toNat_natCast] at hl1' hl2'
          obtain ⟨cb, coff, ia, icap, rfl, hcb, hcc, hcj⟩ := HC.out tn l hl1'
          obtain ⟨ib, ioff, rfl, hib, hc0, hc1⟩ := hcj cn c hl2'
          have hlm : l.length ≤ 9223372036854775807 := HCL.out l (List.mem_of_getElem? hl1')
          have htn : (tn : Int) < (calls.length : Int) := by have := (List.getElem?_eq_some_iff.1 hl1').1; omega
          have hcn : (cn : Int) < (l.length : Int) := by have := (List.getElem?_eq_some_iff.1 hl2').1; omega
          have g1' : decide ((tn : Int) < 0) = false := by simp
          have g2' : decide ((calls.length : Int) ≤ (tn : Int)) = false := by simp; omega
          have g3' : decide ((cn : Int) < 0) = false := by simp
          have g4' : decide ((l.length : Int) ≤ (cn : Int)) = false := by simp; omega
          have e1 := (hB.cell (p := ⟨cb, coff + tn, none⟩) hcb).trans hcc
          have e2 := (hB.cell (p := ⟨ib, ioff + cn * 2, none⟩) hib).trans hc0
          have e3 := (hB.cell (p := ⟨ib, ioff + cn * 2 + 1, none⟩) hib).trans hc1
          have hcb' : cb < wr.heap.size := by omega
          have hib' : ib < wr.heap.size := by omega
          have htn' : tn < calls.length := by omega
          have hcn' : cn < l.length := by omega
          have HC2 := Lib.hid hca
          clear hca hl1' hl2' hcc hcj hc0 hc1
          obtain ⟨cw, cnn⟩ := c
          simp only at e2 e3
          have q0 := blk_cell HI.out.hp 0
          have q1 := blk_cell HI.out.hp 1
          have q2 := blk_cell HI.out.hp 2
          have q3 := blk_cell HI.out.hp 3
          have z0 := blk_free HI.out.hp 0
          have z1 := blk_free HI.out.hp 1
          have z2 := blk_free HI.out.hp 2
          have z3 := blk_free HI.out.hp 3
          simp [phCells] at q0 q1 q2 q3
          have m1 : w.heap.size < wr.heap.size + 1 := by omega
          have m2 : w.heap.size < wr.heap.size + 1 + 1 := by omega
          have m3 : w.heap.size < wr.heap.size + 1 + 1 + 1 := by omega
          have m4 : w.heap.size + 1 < wr.heap.size + 1 := by omega
          have m5 : w.heap.size + 1 < wr.heap.size + 1 + 1 := by omega
          have m6 : w.heap.size + 1 < wr.heap.size + 1 + 1 + 1 := by omega
          have m7 : cb < wr.heap.size + 1 := by omega
          have m8 : ib < wr.heap.size + 1 := by omega
          go_wp2
          go_region
          go_upto_if 73 with fail
          go_cut [] (fun wx => ∃ cw' cn' : Int, Quad.askR st ⟨wh, tn, cn, late⟩ ⟨cw, cnn⟩ = ⟨cw', cn'⟩ ∧ wx = ((((wr.alloc (.cells #[.int .i64 wh, .int .i64 tn, .int .i64 cn, .bool late] 30)).drewN (nq + 1)).alloc (.cells #[.int .i64 cw', .int .i64 cn'] 43)).alloc (.cells #[.int .i64 tn, .int .i64 cn] 52)))
          case first =>
            by_cases hw : cw = 9
            · have hw' : (cw == 9) = true := by simpa using hw
              cases late with
              | false =>
                go_wp2_with fail
                go_meet
                exact ⟨7, cnn, by simp [Quad.askR, hw], rfl⟩
              | true =>
                obtain ⟨fv, hfv⟩ : ∃ fv, fv = (st.f (tn : Int) (cn : Int)).getD 0 := ⟨_, rfl⟩
                have hlook : Sem.run Try.prog (Instr.lookup 46 (.map (some (w.heap.size + 1 + 1))) (.agg #[.int .i64 tn, .int .i64 cn]) false) ((((wr.alloc (.cells #[.int .i64 wh, .int .i64 tn, .int .i64 cn, .bool true] 30)).drewN (nq + 1)).alloc (.cells #[.int .i64 7, .int .i64 cnn] 43)).alloc (.cells #[.int .i64 tn, .int .i64 cn] 52)) = .ok (.int .i64 fv) ((((wr.alloc (.cells #[.int .i64 wh, .int .i64 tn, .int .i64 cn, .bool true] 30)).drewN (nq + 1)).alloc (.cells #[.int .i64 7, .int .i64 cnn] 43)).alloc (.cells #[.int .i64 tn, .int .i64 cn] 52)) := by
                  rw [hfv]
                  refine MapFn.look (b := w.heap.size + 2) (n := k) (HI.out.hm.of_block ?_) (in64_of (i := (tn : Int)) (by omega) (by omega)) (in64_of (i := (cn : Int)) (by omega) (by omega))
                  rw [Below.heap_alloc _ _ _ (by simp; omega), Below.heap_alloc _ _ _ (by simp; omega), World.heap_drewN, Below.heap_alloc _ _ _ (by omega)]
                have HFV := Lib.hid hfv
                clear hfv
                by_cases hfp : fv ≤ 0
                · have hmx : max 0 ((st.f (tn : Int) (cn : Int)).getD 0) = 0 := by rw [← HFV.out]; omega
                  have HMX := Lib.hid hmx
                  clear hmx
                  go_wp2_with fail
                  go_meet
                  exact ⟨10, 0, by simp [Quad.askR, hw, HMX.out], rfl⟩
                · have hmx : max 0 ((st.f (tn : Int) (cn : Int)).getD 0) = fv := by rw [← HFV.out]; omega
                  have HMX := Lib.hid hmx
                  clear hmx
                  have hfp' : 0 < fv := by omega
                  go_wp2_with fail
                  go_meet
                  exact ⟨10, fv, by simp [Quad.askR, hw, HMX.out], rfl⟩
            · have hw' : (cw == 9) = false := by simpa using hw
              go_wp2_with fail
              go_meet
              exact ⟨cw, cnn, by simp [Quad.askR, hw], rfl⟩
          case rest =>
            obtain ⟨cw', cn', hask, rfl⟩ := hcut
            have HASK := Lib.hid hask
            clear hask
            go_wp2_with fail
            refine (do_any st.p.over st.p.phase st.p.parties st.p.waiting cw' cn' _).mono ?_
            rintro e w1 ⟨hb1, hm1⟩
            have hbw : Below wr.heap.size wr w1 := by
              refine Below.trans ?_ (hb1.mono (by simp; omega))
              repeat' (first | (with_reducible exact Below.refl _ _) | (with_reducible assumption) | (with_reducible refine Below.alloc ?_ ?_ _) | (with_reducible refine Below.drew ?_) | (with_reducible refine below_drewN ?_ _) | (with_reducible refine Below.setCell ?_ ?_ _) | go_size | (simp <;> omega))
            have k0 : w1.cell? ⟨wr.heap.size + 1 + 1, 0, none⟩ = some (.int .i64 tn) := (hb1.cell (p := ⟨_, _, none⟩) (by simp)).trans (by simp [go_sem])
            have k1 : w1.cell? ⟨wr.heap.size + 1 + 1, 1, none⟩ = some (.int .i64 cn) := (hb1.cell (p := ⟨_, _, none⟩) (by simp)).trans (by simp [go_sem])
            have hI1 := HI.out.below hbw
            have hs1 : wr.heap.size + 1 + 1 + 1 ≤ w1.heap.size := by have := hb1.size; simp at this; omega
            have hB1 : Below w.heap.size w w1 := hI1.hb
            clear hb1 hbw q0 q1 q2 q3 z0 z1 z2 z3 r0 r1 r2 r3 s0 s1 s2 s3
            have q0 := blk_cell hI1.hp 0
            have q1 := blk_cell hI1.hp 1
            have q2 := blk_cell hI1.hp 2
            have q3 := blk_cell hI1.hp 3
            have z0 := blk_free hI1.hp 0
            have z1 := blk_free hI1.hp 1
            have z2 := blk_free hI1.hp 2
            have z3 := blk_free hI1.hp 3
            simp [phCells] at q0 q1 q2 q3
            have r0 := blk_cell hI1.hr 0
            have r1 := blk_cell hI1.hr 1
            have r2 := blk_cell hI1.hr 2
            have r3 := blk_cell hI1.hr 3
            have s0 := blk_free hI1.hr 0
            have s1 := blk_free hI1.hr 1
            have s2 := blk_free hI1.hr 2
            have s3 := blk_free hI1.hr 3
            simp at r0 r1 r2 r3
            have t1 : w.heap.size < w1.heap.size := by omega
            have t2 : w.heap.size + 1 < w1.heap.size := by omega
            have t3 : wr.heap.size + 1 + 1 < w1.heap.size := by omega
            have m10 : w.heap.size < w1.heap.size + 1 := by omega
            have m11 : w.heap.size + 1 < w1.heap.size + 1 := by omega
            have HI1 := Lib.hid hI1
            clear hI1
            cases hdo : Quad.doF ⟨st.p.over, st.p.phase, st.p.parties, st.p.waiting⟩ ⟨cw', cn'⟩ with
            | none =>
              rw [hdo] at hm1
              have hnone : Quad.runR calls (Quad.startR p) pts = none := runR_none' HX.out HST.out (by simp [Quad.stepR, HC2.out, HASK.out, hdo])
              have HN := Lib.hid hnone
              clear hnone hdo
              simp only at hm1
              subst hm1
              go_wp2
              refine bodyPost_ret (by simp [results, Try.results8, go_sem, t1, t2, m10, m11, r0, r1, r2, r3]; rfl) rfl ⟨?_, ?_⟩; (repeat' (first | (with_reducible exact Below.refl _ _) | (with_reducible assumption) | (with_reducible refine Below.alloc ?_ ?_ _) | (with_reducible refine Below.drew ?_) | (with_reducible refine below_drewN ?_ _) | (with_reducible refine Below.setCell ?_ ?_ _) | go_size | (simp <;> omega))); rw [HN.out]; exact ⟨_, rfl⟩
            | some r =>
              rw [hdo] at hm1
              obtain ⟨⟨ro, rph, rpa, rwa⟩, ra⟩ := r
              simp only [phv] at hm1
              subst hm1
              obtain ⟨w2, hrun, hI2⟩ := round_ok HI1.out (by omega) ⟨ro, rph, rpa, rwa⟩ (in64_of (i := (tn : Int)) (by omega) (by omega)) (in64_of (i := (cn : Int)) (by omega) (by omega)) (doF_in64 hdo)
              have HDO := Lib.hid hdo
              have HI2 := Lib.hid hI2
              clear hdo hI2
              go_wp2_with fail
              go_region
              clear hrun
              have hown := HI2.out.ho
              have hol : st.out.length ≤ 1000 := by have := Quad.runR_out calls _ _ _ HST.out; simp [Quad.startR] at this; omega
              have C3 := Lib.hid (show st.out.length + 1 ≤ maxLen by unfold maxLen; omega)
              have C4 := Lib.hid (show (st.out.length + 1) * 8 ≤ 140737488355328 by omega)
              have C5 := Lib.hid (show w.heap.size + 3 ≤ (w2.alloc (.cells #[.int .i64 ra] 3)).heap.size by have := HI2.out.hm.lt; simp; omega)
              clear hol
              obtain ⟨i0, hi, hz0, hz1, hz2⟩ := info_parts intInfo
              go_wp2_with (at_builtin; refine wpList_append_own _ rfl _ _ 32 rfl (w.heap.size + 3) 3 i0 (.int .i64 0) 1 8 Try.underlying32 hi hz0 hz1 hz2 rfl (by decide) _ _ _ rfl (hown.alloc _) ⟨w2.heap.size, 0, none⟩ 1 1 [.int .i64 ra] rfl rfl ?c1 ?c2 ?c3 ?c4 ?c5 ?_)
              rotate_right
              intro v' w3 hown3 hgrow3 _
              have hI3 := round_end HI2.out (doF_in64 HDO.out) hown3 hgrow3
              have hnx3 : Quad.runR calls (Quad.startR p) (pts.take (k + 1)) = some (Quad.nextR st ⟨wh, tn, cn, late⟩ (⟨ro, rph, rpa, rwa⟩, ra)) :=
                (Quad.runR_step HX.out HST.out).trans (by simp [Quad.stepR, HC2.out, HASK.out, HDO.out])
              have HI3 := Lib.hid hI3
              have HN3 := Lib.hid hnx3
              clear hown3 hgrow3 hI3 hnx3 hown
              go_wp2
              go_roundw
              case rel => exact ⟨k + 1, _, by omega, by go_num, HN3.out, HI3.out⟩
              case measure => simp [intOf]; omega
              all_goals first | exact C3.out | exact C4.out | (have := HI2.out.hm.lt; omega) | rfl
    · have hke : k = pts.length := by omega
      have HKE := Lib.hid hke
      clear hke
      have r0 := blk_cell HI.out.hr 0
      have r1 := blk_cell HI.out.hr 1
      have r2 := blk_cell HI.out.hr 2
      have r3 := blk_cell HI.out.hr 3
      have s0 := blk_free HI.out.hr 0
      have s1 := blk_free HI.out.hr 1
      have s2 := blk_free HI.out.hr 2
      have s3 := blk_free HI.out.hr 3
      simp at r0 r1 r2 r3
      have q0 := blk_cell HI.out.hp 0
      have q1 := blk_cell HI.out.hp 1
      have q2 := blk_cell HI.out.hp 2
      have q3 := blk_cell HI.out.hp 3
      simp [phCells] at q0 q1 q2 q3
      have hsz := HI.out.hm.lt
      have hge : (pts.length : Int) ≤ (k : Int) := by omega
      have hl0 : w.heap.size < wr.heap.size := by omega
      have hl1 : w.heap.size + 1 < wr.heap.size := by omega
      have hB := HI.out.hb
      have hrun : Quad.runR calls (Quad.startR p) pts = some st := by
        have := HST.out
        rw [HKE.out, List.take_length] at this
        exact this
      have HRUN := Lib.hid hrun
      clear hrun
      go_wp2
      refine bodyPost_ret (by simp [results, Try.results8, go_sem, hl0, hl1, r0, r1, r2, r3]; rfl) rfl ⟨?_, ?_⟩
      · repeat' (first | (with_reducible exact Below.refl _ _) | (with_reducible assumption) | (with_reducible refine Below.alloc ?_ ?_ _) | (with_reducible refine Below.drew ?_) | (with_reducible refine below_drewN ?_ _) | (with_reducible refine Below.setCell ?_ ?_ _) | go_size | (simp <;> omega))
      · rw [HRUN.out]
        refine ⟨u10, rfl, ?_⟩
        exact exit_own HI.out

end Go.Proofs.Ytpmoaajoaiabnaa
