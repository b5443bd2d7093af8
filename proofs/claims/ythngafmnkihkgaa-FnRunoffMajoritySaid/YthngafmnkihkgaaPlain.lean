/-
  Plain functions on lists of ints: what the program's small functions compute. No program in sight.
-/
namespace Go.Proofs.Ythngafmnkihkgaa
/-- low ≤ n ≤ high. -/
def inB (n low high : Int) : Bool := decide (low ≤ n) && decide (n ≤ high)
theorem inB_t {n low high : Int} (h : low ≤ n ∧ n ≤ high) : inB n low high = true := by simp [inB, h]
theorem inB_f {n low high : Int} (h : ¬(low ≤ n ∧ n ≤ high)) : inB n low high = false := by
  unfold inB; simp; omega
theorem inB_iff {n low high : Int} : inB n low high = true ↔ low ≤ n ∧ n ≤ high := by simp [inB]
/-- Every number lies between low and high. -/
def allB (xs : List Int) (low high : Int) : Bool := xs.all fun x => inB x low high
theorem allB_iff {xs : List Int} {low high : Int} : allB xs low high = true ↔ ∀ x ∈ xs, low ≤ x ∧ x ≤ high := by simp [allB, inB]
/-- Votes are valid. -/
def vv (xs : List Int) : Bool := allB xs 0 99 && inB xs.length 1 5 && decide (0 < xs.sum)
theorem vv_iff {xs : List Int} : vv xs = true ↔ (∀ x ∈ xs, 0 ≤ x ∧ x ≤ 99) ∧ (1 ≤ xs.length ∧ xs.length ≤ 5) ∧ 0 < xs.sum := by
  simp only [vv, Bool.and_eq_true, allB_iff, inB_iff, decide_eq_true_eq]
  constructor
  · rintro ⟨⟨h1, h2⟩, h3⟩; exact ⟨h1, by omega, h3⟩
  · rintro ⟨h1, h2, h3⟩; exact ⟨⟨h1, by omega⟩, h3⟩
/-- Seats that were given are valid, for n parties. -/
def gv (gs : List Int) (n : Int) : Bool := allB gs 0 20 && (((gs.length : Int)) == n) && decide (gs.sum ≤ 20)
theorem gv_iff {gs : List Int} {n : Int} : gv gs n = true ↔ (∀ x ∈ gs, 0 ≤ x ∧ x ≤ 20) ∧ (gs.length : Int) = n ∧ gs.sum ≤ 20 := by
  simp [gv, allB_iff, and_assoc]
/-- The method is one of both. -/
def mv (m : Int) : Bool := (m == 1) || (m == 2)
theorem mv_iff {m : Int} : mv m = true ↔ m = 1 ∨ m = 2 := by simp [mv]
/-- The divisor of a party with s seats. -/
def dv (s m : Int) : Int := m * s + 1
end Go.Proofs.Ythngafmnkihkgaa
