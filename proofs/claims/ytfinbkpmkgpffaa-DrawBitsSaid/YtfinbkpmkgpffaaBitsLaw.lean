/- The numbers of a seed: no two of one seed are the same, nor two of two seeds at one place. No program in sight. No condition but what each states. -/
import Derived.Test.YtfinbkpmkgpffaaBase
namespace Go.Proofs.Ytfinbkpmkgpffaa

theorem xsh_inj {s a b : Nat} (hs : 0 < s) (h : a ^^^ a / 2 ^ s = b ^^^ b / 2 ^ s) : a = b := by
  rw [← Nat.shiftRight_eq_div_pow, ← Nat.shiftRight_eq_div_pow] at h
  have h1 : (a ^^^ b) ^^^ ((a ^^^ b) >>> s) = 0 := by
    rw [Nat.shiftRight_xor_distrib]
    have e : a ^^^ b ^^^ (a >>> s ^^^ b >>> s) = (a ^^^ a >>> s) ^^^ (b ^^^ b >>> s) := by ac_rfl
    rw [e, h, Nat.xor_self]
  have h2 : a ^^^ b = (a ^^^ b) >>> s := by
    have := congrArg (fun x => x ^^^ ((a ^^^ b) >>> s)) h1
    simpa [Nat.xor_assoc] using this
  have h3 : a ^^^ b = 0 := by
    rw [Nat.shiftRight_eq_div_pow] at h2
    have h4 : 2 ^ 1 ≤ 2 ^ s := Nat.pow_le_pow_right (by decide) hs
    have h5 : (a ^^^ b) / 2 ^ s ≤ (a ^^^ b) / 2 := Nat.div_le_div_left h4 (by decide)
    omega
  have := congrArg (fun x => x ^^^ b) h3
  simpa [Nat.xor_assoc] using this
theorem mulmod_inj {M C D a b : Nat} (hcd : C * D % M = 1) (ha : a < M) (hb : b < M) (h : a * C % M = b * C % M) : a = b := by
  have e : ∀ x, x < M → x * C % M * D % M = x := fun x hx => by
    rw [Nat.mod_mul_mod, Nat.mul_assoc, Nat.mul_mod, hcd, Nat.mul_one, Nat.mod_mod, Nat.mod_eq_of_lt hx]
  rw [← e a ha, ← e b hb, h]

/-- a step of the mixing -/
def stepN (z s c : Nat) : Nat := (z ^^^ z / 2 ^ s) * c % 18446744073709551616
def mixN (z : Nat) : Nat := stepN (stepN z 30 13787848793156543929) 27 10723151780598845931 ^^^ stepN (stepN z 30 13787848793156543929) 27 10723151780598845931 / 2 ^ 31
/-- where a seed's n-th number begins -/
def seedN (seed n : Int) : Nat := ((seed + (n + 1) * 11400714819323198485) % 18446744073709551616).toNat
def bitsV (seed n : Int) : Int := (mixN (seedN seed n) : Nat)

theorem stepN_lt (z s c : Nat) : stepN z s c < 18446744073709551616 := Nat.mod_lt _ (by decide)
theorem xsh_lt {z : Nat} (s : Nat) (h : z < 18446744073709551616) : z ^^^ z / 2 ^ s < 18446744073709551616 :=
  Nat.xor_lt_two_pow (n := 64) h (Nat.lt_of_le_of_lt (Nat.div_le_self _ _) h)
theorem stepN_inj {a b s c d : Nat} (hs : 0 < s) (hcd : c * d % 18446744073709551616 = 1) (ha : a < 18446744073709551616) (hb : b < 18446744073709551616) (h : stepN a s c = stepN b s c) : a = b :=
  xsh_inj hs (mulmod_inj hcd (xsh_lt s ha) (xsh_lt s hb) h)
theorem mixN_inj {a b : Nat} (ha : a < 18446744073709551616) (hb : b < 18446744073709551616) (h : mixN a = mixN b) : a = b := by
  unfold mixN at h
  generalize hx : stepN (stepN a 30 13787848793156543929) 27 10723151780598845931 = x at h
  generalize hy : stepN (stepN b 30 13787848793156543929) 27 10723151780598845931 = y at h
  have h1 : x = y := xsh_inj (s := 31) (by decide) h
  rw [← hx, ← hy] at h1
  have h2 : stepN a 30 13787848793156543929 = stepN b 30 13787848793156543929 := stepN_inj (s := 27) (c := 10723151780598845931) (d := 3573116690164977347) (by decide) (by decide) (stepN_lt _ _ _) (stepN_lt _ _ _) h1
  exact stepN_inj (s := 30) (c := 13787848793156543929) (d := 10871156337175269513) (by decide) (by decide) ha hb h2
theorem seedN_lt (seed n : Int) : seedN seed n < 18446744073709551616 := by
  unfold seedN
  generalize seed + (n + 1) * 11400714819323198485 = z
  omega
theorem seedN_inj {s t : Int} (hs : 0 ≤ s ∧ s < 18446744073709551616) (ht : 0 ≤ t ∧ t < 18446744073709551616) {n : Int} (h : seedN s n = seedN t n) : s = t := by
  unfold seedN at h
  generalize (n + 1) * 11400714819323198485 = z at h
  omega
theorem place_inj {n m : Int} (hn : 0 ≤ n ∧ n < 1152921504606846976) (hm : 0 ≤ m ∧ m < 1152921504606846976) {s : Int} (h : seedN s n = seedN s m) : n = m := by
  unfold seedN at h
  have e : ∀ x : Int, x * 11400714819323198485 % 18446744073709551616 * 17428512612931826493 % 18446744073709551616 = x % 18446744073709551616 := fun x => by
    rw [Int.mul_emod, Int.emod_emod_of_dvd _ (Int.dvd_refl _), ← Int.mul_emod, Int.mul_assoc, Int.mul_emod, show (11400714819323198485 * 17428512612931826493 : Int) % 18446744073709551616 = 1 from by decide, Int.mul_one, Int.emod_emod_of_dvd _ (Int.dvd_refl _)]
  have e1 := e (n + 1)
  have e2 := e (m + 1)
  have h1 : ((n + 1) * 11400714819323198485) % 18446744073709551616 = ((m + 1) * 11400714819323198485) % 18446744073709551616 := by
    clear e1 e2 e
    generalize (n + 1) * 11400714819323198485 = z at h ⊢
    generalize (m + 1) * 11400714819323198485 = y at h ⊢
    omega
  rw [h1, e2] at e1
  clear h h1 e e2
  omega
theorem mixN_lt (z : Nat) : mixN z < 18446744073709551616 := by
  unfold mixN
  exact xsh_lt 31 (stepN_lt _ _ _)
/-- of one seed no two numbers are the same -/
theorem bits_places {s n m : Int} (hn : 0 ≤ n ∧ n < 1152921504606846976) (hm : 0 ≤ m ∧ m < 1152921504606846976) : bitsV s n = bitsV s m ↔ n = m := by
  refine ⟨fun h => ?_, fun h => by rw [h]⟩
  unfold bitsV at h
  exact place_inj hn hm (mixN_inj (seedN_lt _ _) (seedN_lt _ _) (Int.ofNat.inj h))
/-- of two seeds that differ none at the same place -/
theorem bits_seeds {s t n : Int} (hs : 0 ≤ s ∧ s < 18446744073709551616) (ht : 0 ≤ t ∧ t < 18446744073709551616) : bitsV s n = bitsV t n ↔ s = t := by
  refine ⟨fun h => ?_, fun h => by rw [h]⟩
  unfold bitsV at h
  exact seedN_inj hs ht (mixN_inj (seedN_lt _ _) (seedN_lt _ _) (Int.ofNat.inj h))
end Go.Proofs.Ytfinbkpmkgpffaa
