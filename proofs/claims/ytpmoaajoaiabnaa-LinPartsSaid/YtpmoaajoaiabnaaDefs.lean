/- Plain words: a phaser's state, calls, points, and what phaser.Do answers; no program in sight. -/
namespace Quad
structure Phase where
  over : Bool
  phase : Int
  parties : Int
  waiting : Int
  deriving DecidableEq
structure Call where
  what : Int
  n : Int
  deriving DecidableEq
structure Point where
  when_ : Int
  thread : Int
  call : Int
  late : Bool
  deriving DecidableEq

def right (p : Phase) : Bool := decide (0 ≤ p.phase) && (decide (p.phase < 2147483648) && (decide (0 ≤ p.parties) && (decide (p.parties ≤ 65535) && (decide (0 ≤ p.waiting) && decide (p.waiting ≤ p.parties)))))
def fits (c : Call) : Bool :=
  if c.what = 6 then decide (1 ≤ c.n) && decide (c.n ≤ 65535)
  else if c.what = 10 then decide (0 ≤ c.n) && decide (c.n < 2147483648)
  else if c.what = 7 ∨ c.what = 8 ∨ c.what = 9 ∨ c.what = 11 then decide (c.n = 0) else false
def next (p : Phase) : Phase := { p with phase := (p.phase + 1) % 2147483648, waiting := p.parties }
def doF (p : Phase) (c : Call) : Option (Phase × Int) :=
  if right p = true ∧ fits c = true ∧ c.what ≠ 9 then
    some (if p.over then (p, -1)
    else if c.what = 6 then
      if p.parties + c.n > 65535 then (p, -3) else ({ p with parties := p.parties + c.n, waiting := p.waiting + c.n }, p.phase)
    else if c.what = 10 then
      if p.phase = c.n then (p, -4) else (p, p.phase)
    else if c.what = 11 then ({ p with over := true }, 0)
    else if p.waiting = 0 then (p, -2)
    else
      let q : Phase := if c.what = 8 then { p with waiting := p.waiting - 1, parties := p.parties - 1 } else { p with waiting := p.waiting - 1 }
      (if q.waiting > 0 then q else if q.parties = 0 then { q with over := true } else next q, p.phase))
  else none
end Quad
