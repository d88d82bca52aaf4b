import Derived.Test.YtgfkaldndaepfaaDoorBase
/- The two butterflies as plain mathematics: sums over parts of a range, split by one bit. -/
namespace Go.Proofs.YtgfkaldndaepfaaDoor
set_option linter.unusedVariables false

/-- The sum modulo 2 of f over the x below n with p x. -/
def xsum (p f : Nat → Bool) : Nat → Bool
  | 0 => false
  | n + 1 => xor (xsum p f n) (p n && f n)
theorem xsum_congr {p q f : Nat → Bool} : ∀ n, (∀ x, x < n → p x = q x) → xsum p f n = xsum q f n
  | 0, _ => rfl
  | n + 1, h => by simp only [xsum]; rw [xsum_congr n (fun x hx => h x (by omega)), h n (by omega)]
theorem xsum_split (p q f : Nat → Bool) : ∀ n, xsum p f n = xor (xsum (fun x => p x && q x) f n) (xsum (fun x => p x && !q x) f n)
  | 0 => rfl
  | n + 1 => by
    simp only [xsum]
    rw [xsum_split p q f n]
    cases xsum (fun x => p x && q x) f n <;> cases xsum (fun x => p x && !q x) f n <;> cases p n <;> cases q n <;> cases f n <;> rfl

/-- After the stages below 2^j: the x that have gone into place u. -/
def nfP (j u x : Nat) : Bool := (x &&& u == x) && (x >>> j == u >>> j)
def nfF (f : Nat → Bool) (n j u : Nat) : Bool := xsum (nfP j u) f n

theorem nf_fact : ∀ j, j < 6 → ∀ u, u < 64 → ∀ x, x < 64 →
    (u.testBit j = true → nfP j u x = (nfP (j + 1) u x && x.testBit j) ∧ nfP j (u ^^^ 2 ^ j) x = (nfP (j + 1) u x && !x.testBit j)) ∧ (u.testBit j = false → nfP (j + 1) u x = nfP j u x) := by decide +kernel

theorem nf_step (f : Nat → Bool) (n j u : Nat) (hj : j < 6) (hu : u < 64) (hn : n ≤ 64) : nfF f n (j + 1) u = if u.testBit j then xor (nfF f n j u) (nfF f n j (u ^^^ 2 ^ j)) else nfF f n j u := by
  unfold nfF
  cases hb : u.testBit j with
  | true =>
    rw [if_pos rfl, xsum_split (nfP (j + 1) u) (fun x => x.testBit j) f n]
    rw [xsum_congr n (fun x hx => (((nf_fact j hj u hu x (by omega)).1 hb).1).symm), xsum_congr (p := fun x => nfP (j + 1) u x && !x.testBit j) n (fun x hx => (((nf_fact j hj u hu x (by omega)).1 hb).2).symm)]
  | false =>
    rw [if_neg (by simp)]
    exact xsum_congr n (fun x hx => (nf_fact j hj u hu x (by omega)).2 hb)

/-- The sum of c x * f x over the x below n. -/
def csum (c f : Nat → Int) : Nat → Int
  | 0 => 0
  | n + 1 => csum c f n + c n * f n
theorem csum_add {c a b f : Nat → Int} : ∀ n, (∀ x, x < n → c x = a x + b x) → csum c f n = csum a f n + csum b f n
  | 0, _ => rfl
  | n + 1, h => by
    simp only [csum]
    rw [csum_add n (fun x hx => h x (by omega)), h n (by omega), Int.add_mul]
    omega
theorem csum_sub {c a b f : Nat → Int} : ∀ n, (∀ x, x < n → c x = a x - b x) → csum c f n = csum a f n - csum b f n
  | 0, _ => rfl
  | n + 1, h => by
    simp only [csum]
    rw [csum_sub n (fun x hx => h x (by omega)), h n (by omega), Int.sub_mul]
    omega
theorem csum_congr {c d f : Nat → Int} : ∀ n, (∀ x, x < n → c x = d x) → csum c f n = csum d f n
  | 0, _ => rfl
  | n + 1, h => by
    simp only [csum]
    rw [csum_congr n (fun x hx => h x (by omega)), h n (by omega)]

/-- The parity of the bits of a number below 64. -/
def par6 (m : Nat) : Bool := xor (m.testBit 0) (xor (m.testBit 1) (xor (m.testBit 2) (xor (m.testBit 3) (xor (m.testBit 4) (m.testBit 5)))))
/-- After the stages below 2^j: with which sign x stands in place a. -/
def spC (j a x : Nat) : Int := if x >>> j == a >>> j then (if par6 (x &&& a &&& (2 ^ j - 1)) then -1 else 1) else 0
def spF (f : Nat → Int) (n j a : Nat) : Int := csum (spC j a) f n
theorem sp_fact : ∀ j, j < 6 → ∀ a, a < 64 → ∀ x, x < 64 →
    (a.testBit j = true → spC (j + 1) a x = spC j (a ^^^ 2 ^ j) x - spC j a x) ∧ (a.testBit j = false → spC (j + 1) a x = spC j a x + spC j (a ^^^ 2 ^ j) x) := by decide +kernel
theorem sp_step (f : Nat → Int) (n j a : Nat) (hj : j < 6) (ha : a < 64) (hn : n ≤ 64) : spF f n (j + 1) a = if a.testBit j then spF f n j (a ^^^ 2 ^ j) - spF f n j a else spF f n j a + spF f n j (a ^^^ 2 ^ j) := by
  unfold spF
  cases hb : a.testBit j with
  | true =>
    rw [if_pos rfl]
    exact csum_sub n (fun x hx => (sp_fact j hj a ha x (by omega)).1 hb)
  | false =>
    rw [if_neg (by simp)]
    exact csum_add n (fun x hx => (sp_fact j hj a ha x (by omega)).2 hb)
end Go.Proofs.YtgfkaldndaepfaaDoor
