/- The field of 256 elements: bytes under exclusive or, and the product modulo x^8+x^4+x^3+x^2+1. -/
namespace Go.Proofs.QGf

/-- A byte as an element of the field. -/
structure G where
  n : Nat
  lt : n < 256

theorem G.ext {a b : G} (h : a.n = b.n) : a = b := by
  cases a; cases b; cases h; rfl

instance : DecidableEq G := fun a b =>
  if h : a.n = b.n then isTrue (G.ext h) else isFalse (fun e => h (by rw [e]))

/-- x times a byte. -/
def xt (a : Nat) : Nat := if a < 128 then 2 * a else (2 * a - 256) ^^^ 29

/-- The product of two numbers below 256, by the n lowest bits of the second. -/
def mulN : Nat → Nat → Nat → Nat
  | 0, _, _ => 0
  | n + 1, a, b => (if b % 2 = 1 then a else 0) ^^^ mulN n (xt a) (b / 2)

theorem xlc (a b c : Nat) : a ^^^ (b ^^^ c) = b ^^^ (a ^^^ c) := by rw [← Nat.xor_assoc, Nat.xor_comm a b, Nat.xor_assoc]
theorem xsl (a b : Nat) : a ^^^ (a ^^^ b) = b := by rw [← Nat.xor_assoc, Nat.xor_self, Nat.zero_xor]
theorem xor_lt {a b : Nat} (ha : a < 256) (hb : b < 256) : a ^^^ b < 256 := Nat.xor_lt_two_pow (n := 8) ha hb

theorem xt_lt {a : Nat} (h : a < 256) : xt a < 256 := by
  unfold xt
  split
  · omega
  · exact xor_lt (by omega) (by omega)

theorem mulN_lt : ∀ (n a b : Nat), a < 256 → mulN n a b < 256
  | 0, _, _, _ => by unfold mulN; decide
  | n + 1, a, b, h => by
    unfold mulN
    refine xor_lt ?_ (mulN_lt n _ _ (xt_lt h))
    split <;> omega

instance : Zero G := ⟨⟨0, by decide⟩⟩
instance : One G := ⟨⟨1, by decide⟩⟩
instance : Add G := ⟨fun a b => ⟨a.n ^^^ b.n, xor_lt a.lt b.lt⟩⟩
instance : Mul G := ⟨fun a b => ⟨mulN 8 a.n b.n, mulN_lt 8 _ _ a.lt⟩⟩
instance : Inhabited G := ⟨0⟩

theorem add_n (a b : G) : (a + b).n = a.n ^^^ b.n := rfl
theorem mul_n (a b : G) : (a * b).n = mulN 8 a.n b.n := rfl
@[simp] theorem zero_n : (0 : G).n = 0 := rfl
@[simp] theorem one_n : (1 : G).n = 1 := rfl

theorem add_comm (a b : G) : a + b = b + a := G.ext (Nat.xor_comm _ _)
theorem add_assoc (a b c : G) : a + b + c = a + (b + c) := G.ext (Nat.xor_assoc _ _ _)
theorem add_left_comm (a b c : G) : a + (b + c) = b + (a + c) := by rw [← add_assoc, add_comm a b, add_assoc]
@[simp] theorem add_self (a : G) : a + a = 0 := G.ext (Nat.xor_self _)
@[simp] theorem add_zero (a : G) : a + 0 = a := G.ext (Nat.xor_zero _)
@[simp] theorem zero_add (a : G) : 0 + a = a := G.ext (Nat.zero_xor _)
@[simp] theorem add_self_left (a b : G) : a + (a + b) = b := by rw [← add_assoc, add_self, zero_add]
theorem add_eq_zero {a b : G} : a + b = 0 ↔ a = b := by
  constructor
  · intro h
    have h1 : a + (a + b) = a + 0 := by rw [h]
    rw [add_self_left, add_zero] at h1
    exact h1.symm
  · rintro rfl
    exact add_self _

/-- Doubling is linear: by the tables of the two halves. -/
theorem xt_xor {a b : Nat} (ha : a < 256) (hb : b < 256) : xt (a ^^^ b) = xt a ^^^ xt b := by
  have key : ∀ a : Nat, a < 256 → xt a = ((a <<< 1) % 256) ^^^ (if a.testBit 7 then 29 else 0) := by
    intro a h
    have := (by decide +kernel : ∀ a : Fin 256, xt a.1 = ((a.1 <<< 1) % 256) ^^^ (if a.1.testBit 7 then 29 else 0)) ⟨a, h⟩
    exact this
  rw [key _ ha, key _ hb, key _ (xor_lt ha hb), Nat.testBit_xor, Nat.shiftLeft_xor_distrib, show (256 : Nat) = 2 ^ 8 from rfl, Nat.xor_mod_two_pow]
  cases a.testBit 7 <;> cases b.testBit 7 <;> simp [Nat.xor_comm, xlc, xsl]

theorem mulN_xor_left : ∀ (n a b c : Nat), a < 256 → b < 256 → mulN n (a ^^^ b) c = mulN n a c ^^^ mulN n b c
  | 0, _, _, _, _, _ => by simp [mulN]
  | n + 1, a, b, c, ha, hb => by
    unfold mulN
    rw [xt_xor ha hb, mulN_xor_left n _ _ _ (xt_lt ha) (xt_lt hb)]
    split
    · simp only [Nat.xor_assoc]; rw [xlc b]
    · simp

theorem xor_div2 (a b : Nat) : (a ^^^ b) / 2 = (a / 2) ^^^ (b / 2) := Nat.xor_div_two
theorem mulN_xor_right : ∀ (n a b c : Nat), mulN n a (b ^^^ c) = mulN n a b ^^^ mulN n a c
  | 0, _, _, _ => by simp [mulN]
  | n + 1, a, b, c => by
    unfold mulN
    rw [xor_div2, mulN_xor_right n]
    have h : (b ^^^ c) % 2 = ((b % 2) ^^^ (c % 2)) := by
      have := Nat.xor_mod_two_pow (a := b) (b := c) (n := 1)
      simpa using this
    rw [h]
    have hb := Nat.mod_lt b (show 0 < 2 by decide)
    have hc := Nat.mod_lt c (show 0 < 2 by decide)
    generalize b % 2 = p at *
    generalize c % 2 = q at *
    generalize mulN n (xt a) (b / 2) = u
    generalize mulN n (xt a) (c / 2) = v
    have hp : p = 0 ∨ p = 1 := by omega
    have hq : q = 0 ∨ q = 1 := by omega
    rcases hp with rfl | rfl <;> rcases hq with rfl | rfl <;> simp [Nat.xor_assoc, xlc, xsl]

theorem add_mul (a b c : G) : (a + b) * c = a * c + b * c := G.ext (mulN_xor_left 8 _ _ _ a.lt b.lt)
theorem mul_add (a b c : G) : a * (b + c) = a * b + a * c := G.ext (mulN_xor_right 8 _ _ _)

/-- Bytes below a power of two whose every single bit has a property that sums inherit have it. -/
theorem bits_all (p : Nat → Prop) (h0 : p 0) (hadd : ∀ a b, a < 256 → b < 256 → p a → p b → p (a ^^^ b)) (hbit : ∀ i : Fin 8, p (2 ^ i.1)) : ∀ a, a < 256 → p a := by
  have main : ∀ k, k ≤ 8 → ∀ a, a < 2 ^ k → p a := by
    intro k
    induction k with
    | zero =>
      intro _ a h
      have : a = 0 := by omega
      rw [this]; exact h0
    | succ k ih =>
      intro hk a h
      have hk8 : 2 ^ (k + 1) ≤ 256 := Nat.pow_le_pow_right (n := 2) (by decide) (show k + 1 ≤ 8 by omega)
      have h2 : 2 ^ (k + 1) = 2 * 2 ^ k := by rw [Nat.pow_succ]; omega
      by_cases hs : a < 2 ^ k
      · exact ih (by omega) a hs
      · have e : a = (a - 2 ^ k) ^^^ 2 ^ k := by
          have hlt : a - 2 ^ k < 2 ^ k := by omega
          have := Nat.two_pow_add_eq_or_of_lt hlt 1
          have h3 : 2 ^ k ^^^ (a - 2 ^ k) = 2 ^ k + (a - 2 ^ k) := by
            apply Nat.eq_of_testBit_eq
            intro i
            rw [Nat.testBit_xor, Nat.testBit_two_pow]
            by_cases hi : k = i
            · subst hi
              rw [Nat.testBit_two_pow_add_eq, Nat.testBit_lt_two_pow hlt]; simp
            · by_cases hi2 : i < k
              · rw [Nat.testBit_two_pow_add_gt hi2]; simp [hi]
              · have hi3 : 2 ^ (k + 1) ≤ 2 ^ i := Nat.pow_le_pow_right (by decide) (by omega)
                have hi4 : 2 ^ k ≤ 2 ^ i := Nat.pow_le_pow_right (by decide) (by omega)
                rw [Nat.testBit_lt_two_pow (show a - 2 ^ k < 2 ^ i by omega), Nat.testBit_lt_two_pow (show 2 ^ k + (a - 2 ^ k) < 2 ^ i by omega)]
                simp [hi]
          rw [Nat.xor_comm, h3]; omega
        rw [e]
        exact hadd _ _ (by omega) (by omega) (ih (by omega) _ (by omega)) (hbit ⟨k, by omega⟩)
  intro a h
  exact main 8 (Nat.le_refl _) a h

def ofN (n : Nat) : G := ⟨n % 256, Nat.mod_lt _ (by decide)⟩
theorem ofN_n {n : Nat} (h : n < 256) : (ofN n).n = n := Nat.mod_eq_of_lt h
theorem ofN_of (a : G) : ofN a.n = a := G.ext (Nat.mod_eq_of_lt a.lt)
theorem ofN_xor {a b : Nat} (ha : a < 256) (hb : b < 256) : ofN (a ^^^ b) = ofN a + ofN b := G.ext (by rw [add_n, ofN_n ha, ofN_n hb, ofN_n (xor_lt ha hb)])

/-- What holds of the eight powers, and is handed on to sums, holds of all. -/
theorem G.bits (p : G → Prop) (h0 : p 0) (hadd : ∀ a b, p a → p b → p (a + b)) (hbit : ∀ i : Fin 8, p (ofN (2 ^ i.1))) (a : G) : p a := by
  have := bits_all (fun n => p (ofN n)) h0 (fun a b ha hb h1 h2 => by rw [ofN_xor ha hb]; exact hadd _ _ h1 h2) hbit a.n a.lt
  rwa [ofN_of] at this

@[simp] theorem zero_mul (a : G) : 0 * a = 0 := by
  have h : (0 + 0 : G) * a = 0 * a + 0 * a := add_mul _ _ _
  rwa [add_self, add_self] at h
@[simp] theorem mul_zero (a : G) : a * 0 = 0 := by
  have h : a * (0 + 0 : G) = a * 0 + a * 0 := mul_add _ _ _
  rwa [add_self, add_self] at h

theorem mul_comm (a b : G) : a * b = b * a := by
  refine G.bits (fun a => ∀ b, a * b = b * a) ?_ ?_ ?_ a b
  · intro b; simp
  · intro a1 a2 h1 h2 b
    rw [add_mul, mul_add, h1, h2]
  · intro i b
    refine G.bits (fun b => ofN (2 ^ i.1) * b = b * ofN (2 ^ i.1)) ?_ ?_ ?_ b
    · simp
    · intro b1 b2 h1 h2
      rw [add_mul, mul_add, h1, h2]
    · intro k
      exact (by decide +kernel : ∀ i k : Fin 8, ofN (2 ^ i.1) * ofN (2 ^ k.1) = ofN (2 ^ k.1) * ofN (2 ^ i.1)) i k

theorem mul_assoc (a b c : G) : a * b * c = a * (b * c) := by
  refine G.bits (fun a => ∀ b c, a * b * c = a * (b * c)) ?_ ?_ ?_ a b c
  · intro b c; simp
  · intro a1 a2 h1 h2 b c
    rw [add_mul, add_mul, add_mul, h1, h2]
  · intro i b c
    refine G.bits (fun b => ∀ c, ofN (2 ^ i.1) * b * c = ofN (2 ^ i.1) * (b * c)) ?_ ?_ ?_ b c
    · intro c; simp
    · intro b1 b2 h1 h2 c
      rw [mul_add, add_mul, add_mul, mul_add, h1, h2]
    · intro k c
      refine G.bits (fun c => ofN (2 ^ i.1) * ofN (2 ^ k.1) * c = ofN (2 ^ i.1) * (ofN (2 ^ k.1) * c)) ?_ ?_ ?_ c
      · simp
      · intro c1 c2 h1 h2
        rw [mul_add, mul_add, mul_add, h1, h2]
      · intro j
        exact (by decide +kernel : ∀ i k j : Fin 8, ofN (2 ^ i.1) * ofN (2 ^ k.1) * ofN (2 ^ j.1) = ofN (2 ^ i.1) * (ofN (2 ^ k.1) * ofN (2 ^ j.1))) i k j

theorem mul_left_comm (a b c : G) : a * (b * c) = b * (a * c) := by rw [← mul_assoc, mul_comm a b, mul_assoc]
@[simp] theorem mul_one (a : G) : a * 1 = a := by
  refine G.bits (fun a => a * 1 = a) ?_ ?_ ?_ a
  · simp
  · intro a b h1 h2; rw [add_mul, h1, h2]
  · exact fun i => (by decide +kernel : ∀ i : Fin 8, ofN (2 ^ i.1) * 1 = ofN (2 ^ i.1)) i
@[simp] theorem one_mul (a : G) : 1 * a = a := by rw [mul_comm, mul_one]

/-- A byte to a power. -/
def pow (a : G) : Nat → G
  | 0 => 1
  | n + 1 => a * pow a n
theorem pow_add (a : G) (m n : Nat) : pow a (m + n) = pow a m * pow a n := by
  induction m with
  | zero => simp [pow]
  | succ m ih => rw [Nat.succ_add]; simp only [pow]; rw [ih, mul_assoc]
theorem pow_mul_dist (a b : G) (n : Nat) : pow (a * b) n = pow a n * pow b n := by
  induction n with
  | zero => simp [pow]
  | succ n ih => simp only [pow]; rw [ih, mul_assoc, mul_assoc, mul_left_comm b]

/-- The inverse. -/
def inv (a : G) : G :=
  let b := a * a; let c := b * b; let d := c * c; let e := d * d; let f := e * e; let g := f * f; let h := g * g
  b * (c * (d * (e * (f * (g * h)))))
theorem inv_pow (a : G) : inv a = pow a 254 := by
  have h2 : ∀ n, pow a n * pow a n = pow a (n + n) := fun n => (pow_add a n n).symm
  have e1 : pow a 1 = a := by simp [pow]
  unfold inv
  simp only []
  rw [show a * a = pow a 2 from by simp [pow], h2, h2, h2, h2, h2, h2, ← pow_add, ← pow_add, ← pow_add, ← pow_add, ← pow_add, ← pow_add]
theorem inv_mul {a : G} (h : a ≠ 0) : inv a * a = 1 := by
  have key : ∀ n : Fin 256, n.1 = 0 ∨ inv (ofN n.1) * ofN n.1 = 1 := by decide +kernel
  have := key ⟨a.n, a.lt⟩
  rw [ofN_of] at this
  rcases this with h1 | h1
  · exact absurd (G.ext h1) h
  · exact h1
theorem mul_inv {a : G} (h : a ≠ 0) : a * inv a = 1 := by rw [mul_comm, inv_mul h]
theorem mul_eq_zero {a b : G} : a * b = 0 ↔ a = 0 ∨ b = 0 := by
  constructor
  · intro h
    by_cases ha : a = 0
    · exact .inl ha
    · right
      have h1 : inv a * (a * b) = inv a * 0 := by rw [h]
      rw [← mul_assoc, inv_mul ha, one_mul, mul_zero] at h1
      exact h1
  · rintro (rfl | rfl) <;> simp
theorem one_ne : (1 : G) ≠ 0 := by decide
theorem mul_left_cancel {a b c : G} (h : a ≠ 0) (e : a * b = a * c) : b = c := by
  have h1 : inv a * (a * b) = inv a * (a * c) := by rw [e]
  rwa [← mul_assoc, ← mul_assoc, inv_mul h, one_mul, one_mul] at h1
theorem inv_ne {a : G} (h : a ≠ 0) : inv a ≠ 0 := by
  intro e
  have := inv_mul h
  rw [e, zero_mul] at this
  exact one_ne this.symm
end Go.Proofs.QGf
