/- Contracts of packed.Right, phaser.Fits, phaser.next, phaser.Do and pick over this seat's program. -/
import Derived.Test.YtpmoaajoaiabnaaProg
import Derived.Test.YtpmoaajoaiabnaaDefs
import Derived.WalkKit
import Derived.BigQuiet
import Derived.Deep.QuietTactic
import Derived.Deep.RegionWith
import Derived.WalkLawsBesides
import Derived.BigGuardPart
import Derived.BigRegion
import Derived.Lib.Hide
import Derived.Deep.Light
import Derived.Handy
namespace Go.Proofs.Ytpmoaajoaiabnaa
open Go.RowKit

def pickF (a n : Int) : Int := (a % 18446744073709551616) % n
def IntPost (r : Int) (w1 : World) (e : Ending) (w' : World) : Prop := e = .returned (.int .i64 r) ∧ w1 = w'
def BoolPost (b : Bool) (w1 : World) (e : Ending) (w' : World) : Prop := e = .returned (.bool b) ∧ w1 = w'

theorem pick_eq (a n : Int) (h : 0 < n) (h2 : n ≤ 9223372036854775807) : wrap64 ((IntKind.u64.wrap a).tmod n) = pickF a n := by
  have e1 : IntKind.u64.wrap a = a % 18446744073709551616 := by
    first | rfl | (simp [IntKind.wrap]; done)
  have e0 : 0 ≤ a % 18446744073709551616 := by omega
  rw [e1, Int.tmod_eq_emod_of_nonneg e0]
  have h1 : (a % 18446744073709551616) % n < n := Int.emod_lt_of_pos _ h
  have h3 : 0 ≤ (a % 18446744073709551616) % n := Int.emod_nonneg _ (by omega)
  unfold pickF
  generalize (a % 18446744073709551616) % n = x at *
  unfold wrap64
  omega

theorem pickF_nonneg (a n : Int) (h : 0 < n) : 0 ≤ pickF a n := Int.emod_nonneg _ (by omega)
theorem pickF_lt (a n : Int) (h : 0 < n) : pickF a n < n := Int.emod_lt_of_pos _ h

theorem pick_any (a n : Int) (w : World) (h : 0 < n) (h2 : n ≤ 9223372036854775807) :
    Calls Try.prog 5 #[.int .i64 a, .int .i64 n] w (IntPost (pickF a n) w) := by
  have E := Lib.hid (pick_eq a n h h2)
  go_enter Try.func5, Try.ntmps5
  go_wp2
  go_ret
  exact ⟨by rw [E.out]; rfl, rfl⟩

theorem right_any (o : Bool) (ph pa wa : Int) (w : World) : Calls Try.prog 14 #[.agg #[.bool o, .int .i64 ph, .int .i64 pa, .int .i64 wa]] w
    (BoolPost (Quad.right ⟨o, ph, pa, wa⟩) (w.alloc (.cells #[.bool o, .int .i64 ph, .int .i64 pa, .int .i64 wa] 23))) := by
  go_enter Try.func14, Try.ntmps14
  go_wp2
  all_goals
    go_ret
    refine ⟨?_, rfl⟩
    simp [Quad.right, *]
  all_goals omega

theorem fits_any (wh n : Int) (w : World) : Calls Try.prog 15 #[.agg #[.int .i64 wh, .int .i64 n]] w
    (BoolPost (Quad.fits ⟨wh, n⟩) (w.alloc (.cells #[.int .i64 wh, .int .i64 n] 43))) := by
  go_enter Try.func15, Try.ntmps15
  go_wp2
  all_goals
    go_ret
    refine ⟨?_, rfl⟩
    simp_all [Quad.fits]
  all_goals first | omega | (by_cases hn : n = 0 <;> simp [hn])

def phv (p : Quad.Phase) : Value := .agg #[.bool p.over, .int .i64 p.phase, .int .i64 p.parties, .int .i64 p.waiting]
def NextPost (o : Bool) (ph pa : Int) (w1 : World) (e : Ending) (w' : World) : Prop :=
  e = .returned (.agg #[.bool o, .int .i64 ((ph + 1) % 2147483648), .int .i64 pa, .int .i64 pa]) ∧ w1 = w'
theorem next_any (o : Bool) (ph pa wa : Int) (w : World) (h : 0 ≤ ph) (h2 : ph < 2147483648) : Calls Try.prog 16 #[.agg #[.bool o, .int .i64 ph, .int .i64 pa, .int .i64 wa]] w
    (NextPost o ph pa ((w.alloc (.cells #[.bool o, .int .i64 ((ph + 1) % 2147483648), .int .i64 pa, .int .i64 pa] 23)).alloc (.cells #[.bool o, .int .i64 ((ph + 1) % 2147483648), .int .i64 pa, .int .i64 pa] 23))) := by
  go_enter Try.func16, Try.ntmps16
  go_wp2
  exact bodyPost_ret (v := .agg #[.bool o, .int .i64 ((ph + 1) % 2147483648), .int .i64 pa, .int .i64 pa]) (by simp [results, Try.results16, go_sem]) rfl ⟨rfl, rfl⟩

/- Three answers of Do, or ErrArg and zero values. -/
def DoPost (p : Quad.Phase) (c : Quad.Call) (w : World) (e : Ending) (w' : World) : Prop :=
  Below w.heap.size w w' ∧ match Quad.doF p c with
    | some r => e = .returned (.tuple #[phv r.1, .int .i64 r.2, .nilIface])
    | none => e = .returned (.tuple #[.agg #[.bool false, .int .i64 0, .int .i64 0, .int .i64 0], .int .i64 0, .iface 49 (.int .i64 1)])

theorem bcell {W w1 : World} (hb : Below W.heap.size W w1) : (∀ b o, b < W.heap.size → w1.cell? ⟨b, o, none⟩ = W.cell? ⟨b, o, none⟩) ∧ (∀ b o, b < W.heap.size → w1.frozen? ⟨b, o, none⟩ = W.frozen? ⟨b, o, none⟩) :=
  ⟨fun b o h => hb.cell (p := ⟨b, o, none⟩) h, fun b o h => hb.frozen (p := ⟨b, o, none⟩) h⟩

set_option maxHeartbeats 1000000 in
theorem do_any (o : Bool) (ph pa wa wh n : Int) (w : World) : Calls Try.prog 11 #[.agg #[.bool o, .int .i64 ph, .int .i64 pa, .int .i64 wa], .agg #[.int .i64 wh, .int .i64 n]] w
    (DoPost ⟨o, ph, pa, wa⟩ ⟨wh, n⟩ w) := by
  by_cases hg : Quad.right ⟨o, ph, pa, wa⟩ = true ∧ Quad.fits ⟨wh, n⟩ = true
  · obtain ⟨hr, hf⟩ := hg
    have hb : 0 ≤ ph ∧ ph < 2147483648 ∧ 0 ≤ pa ∧ pa ≤ 65535 ∧ 0 ≤ wa ∧ wa ≤ pa := by simpa [Quad.right] using hr
    obtain ⟨b1, b2, b3, b4, b5, b6⟩ := hb
    have hn : 0 ≤ n ∧ n < 2147483648 := by
      simp only [Quad.fits] at hf
      split at hf
      · simp at hf; omega
      · split at hf
        · simp at hf; omega
        · split at hf
          · simp at hf; omega
          · simp at hf
    obtain ⟨n1, n2⟩ := hn
    go_enter Try.func11, Try.ntmps11
    go_wp2_with (first | (go_at_call 14; refine (right_any _ _ _ _ _).mono ?_; rintro e w' ⟨rfl, rfl⟩) | (go_at_call 15; refine (fits_any _ _ _).mono ?_; rintro e w' ⟨rfl, rfl⟩) | (go_at_call 16; refine (next_any _ _ _ _ _ b1 b2).mono ?_; rintro e w1 ⟨rfl, rfl⟩))
    all_goals try (go_region; all_goals try go_wp2)
    all_goals
      refine bodyPost_ret (by simp [results, Try.results11, go_sem]; rfl) rfl ⟨?_, ?_⟩
    all_goals go_light
    all_goals try (go_grown; done)
    all_goals simp only [beq_iff_eq, beq_eq_false_iff_ne, ne_eq] at *
    all_goals first | (simp_all [Quad.doF, Quad.next, phv]; done) | (simp_all [Quad.doF, Quad.next, phv]; rw [if_neg (by omega)]; simp)
  · have hnn : Quad.doF ⟨o, ph, pa, wa⟩ ⟨wh, n⟩ = none := by
      unfold Quad.doF; rw [if_neg]; exact fun h => hg ⟨h.1, h.2.1⟩
    have HN := Lib.hid hnn
    clear hnn
    by_cases hr : Quad.right ⟨o, ph, pa, wa⟩ = true
    · have hf : Quad.fits ⟨wh, n⟩ = false := by simpa [hr] using hg
      go_enter Try.func11, Try.ntmps11
      go_wp2_with (first | (go_at_call 14; refine (right_any _ _ _ _ _).mono ?_; rintro e w' ⟨rfl, rfl⟩) | (go_at_call 15; refine (fits_any _ _ _).mono ?_; rintro e w' ⟨rfl, rfl⟩))
      refine bodyPost_ret (by simp [results, Try.results11, go_sem]; rfl) rfl ⟨?_, ?_⟩
      · go_grown
      · rw [HN.out]
    · have hr' : Quad.right ⟨o, ph, pa, wa⟩ = false := by simpa using hr
      clear hr
      go_enter Try.func11, Try.ntmps11
      go_wp2_with (first | (go_at_call 14; refine (right_any _ _ _ _ _).mono ?_; rintro e w' ⟨rfl, rfl⟩) | (go_at_call 15; refine (fits_any _ _ _).mono ?_; rintro e w' ⟨rfl, rfl⟩))
      refine bodyPost_ret (by simp [results, Try.results11, go_sem]; rfl) rfl ⟨?_, ?_⟩
      · go_grown
      · rw [HN.out]

end Go.Proofs.Ytpmoaajoaiabnaa
