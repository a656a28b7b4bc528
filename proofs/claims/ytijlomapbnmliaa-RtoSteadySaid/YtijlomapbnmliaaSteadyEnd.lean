/-
  The plain law of RtoSteady: two hundred samples that are all alike bring the wait to just that and a few ticks, or the least.
  No conditions.
-/
import Derived.Test.YtijlomapbnmliaaRto
set_option linter.unusedVariables false
set_option linter.unusedSimpArgs false
namespace Go.Proofs.Ytijlomapbnmliaa

/-- What the samples ahead leave. -/
structure Calm (s : RtoS) : Prop where
  least : s.least = 10
  greatest : s.greatest = 1048576
  m0 : 0 ≤ s.mean
  m1 : s.mean ≤ 39999
  d0 : 0 ≤ s.dev
  d1 : s.dev ≤ 19999

theorem Calm.sample {s : RtoS} (h : Calm s) {t : Int} (t0 : 0 ≤ t) (t1 : t < 5000) : Calm (s.sample t) := by
  obtain ⟨a, b, c, d, e, f⟩ := h
  refine ⟨a, b, ?_, ?_, ?_, ?_⟩ <;> (simp only [RtoS.sample, mx]; split <;> omega)

/-- Behind k samples that are all alike. -/
def RtoS.often (s : RtoS) (t : Int) : Nat → RtoS
  | 0 => s
  | k + 1 => (s.often t k).sample t

theorem Calm.often {s : RtoS} (h : Calm s) {t : Int} (t0 : 0 ≤ t) (t1 : t < 5000) : ∀ k, Calm (s.often t k)
  | 0 => h
  | k + 1 => (h.often t0 t1 k).sample t0 t1

/-- How far the mean and the deviation may be, from above and from below. -/
def far : Nat → Nat × Nat
  | 0 => (40000, 20000)
  | k + 1 => ((far k).1 - (far k).1 / 8, (far k).2 - (far k).2 / 4 + (far k).1 / 8)
def near : Nat → Nat × Nat
  | 0 => (40000, 20000)
  | k + 1 => ((near k).1 - ((near k).1 + 7) / 8, (near k).2 - (near k).2 / 4 + ((near k).1 + 7) / 8)

theorem far_end : far 199 = (7, 3) := by decide +kernel
theorem near_end : near 199 = (0, 3) := by decide +kernel

def Above (t : Int) (k : Nat) (s : RtoS) : Prop := s.any = true ∧ 8 * t ≤ s.mean ∧ s.mean - 8 * t ≤ ((far k).1 : Int) ∧ 0 ≤ s.dev ∧ s.dev ≤ ((far k).2 : Int)
def Under (t : Int) (k : Nat) (s : RtoS) : Prop := s.any = true ∧ s.mean ≤ 8 * t ∧ 8 * t - s.mean ≤ ((near k).1 : Int) ∧ 0 ≤ s.dev ∧ s.dev ≤ ((near k).2 : Int)

theorem Above.step {t : Int} {k : Nat} {s : RtoS} (h : Above t k s) : Above t (k + 1) (s.sample t) := by
  obtain ⟨a, b, c, d, e⟩ := h
  generalize hE : far k = p at c e
  obtain ⟨E, V⟩ := p
  have hF : far (k + 1) = (E - E / 8, V - V / 4 + E / 8) := by simp only [far, hE]
  refine ⟨rfl, ?_, ?_, ?_, ?_⟩ <;> simp only [RtoS.sample, a, if_true, mx, hF]
  · omega
  · simp only at c; omega
  · split <;> omega
  · simp only at c e; split <;> omega

theorem Under.step {t : Int} {k : Nat} {s : RtoS} (h : Under t k s) : Under t (k + 1) (s.sample t) := by
  obtain ⟨a, b, c, d, e⟩ := h
  generalize hE : near k = p at c e
  obtain ⟨E, V⟩ := p
  have hF : near (k + 1) = (E - (E + 7) / 8, V - V / 4 + (E + 7) / 8) := by simp only [near, hE]
  refine ⟨rfl, ?_, ?_, ?_, ?_⟩ <;> simp only [RtoS.sample, a, if_true, mx, hF]
  · omega
  · simp only at c; omega
  · split <;> omega
  · simp only at c e; split <;> omega

theorem often_cases {s : RtoS} (h : Calm s) {t : Int} (t0 : 0 ≤ t) (t1 : t < 5000) : ∀ k, Above t k (s.often t (k + 1)) ∨ Under t k (s.often t (k + 1))
  | 0 => by
    have h1 := h.sample t0 t1
    have ha : (s.sample t).any = true := rfl
    obtain ⟨_, _, m0, m1, d0, d1⟩ := h1
    by_cases hm : 8 * t ≤ (s.sample t).mean
    · refine .inl ⟨ha, hm, ?_, d0, ?_⟩ <;> simp only [far, RtoS.often] <;> omega
    · refine .inr ⟨ha, by simp only [RtoS.often]; omega, ?_, d0, ?_⟩ <;> simp only [near, RtoS.often] <;> omega
  | k + 1 => by
    rcases often_cases h t0 t1 k with h | h
    · exact .inl h.step
    · exact .inr h.step

theorem often_wait (s : RtoS) (t : Int) (k : Nat) : (s.often t (k + 1)).wait = mn (s.often t (k + 1)).greatest (mx (s.often t (k + 1)).least ((s.often t (k + 1)).mean / 8 + mx 1 (s.often t (k + 1)).dev)) := rfl

theorem steady_end {s : RtoS} (h : Calm s) {t : Int} (t0 : 0 ≤ t) (t1 : t < 5000) : mx 10 t ≤ (s.often t 200).wait ∧ (s.often t 200).wait ≤ mx 10 (t + 12) := by
  have hc := h.often t0 t1 (199 + 1)
  have hw := often_wait s t 199
  rcases often_cases h t0 t1 199 with ⟨_, b, c, d, e⟩ | ⟨_, b, c, d, e⟩
  · rw [far_end] at c e
    rw [hc.least, hc.greatest] at hw
    generalize s.often t (199 + 1) = u at *
    rw [hw]
    simp only [mx, mn]
    simp only at c e
    have h8 : u.mean / 8 = t := by omega
    rw [h8]
    constructor <;> (repeat' split) <;> omega
  · rw [near_end] at c e
    rw [hc.least, hc.greatest] at hw
    generalize s.often t (199 + 1) = u at *
    rw [hw]
    simp only [mx, mn]
    simp only at c e
    have h8 : u.mean / 8 = t := by omega
    rw [h8]
    constructor <;> (repeat' split) <;> omega

end Go.Proofs.Ytijlomapbnmliaa
