/- Polynomials over the field of 256 elements, as lists of coefficients, the constant one first. -/
import Derived.Test.YtldfcpmapbofgaaDoorQGf
namespace Go.Proofs.QGf

/-- The coefficient at a power. -/
def coef (p : List G) (k : Nat) : G := p.getD k 0
@[simp] theorem coef_nil (k : Nat) : coef [] k = 0 := rfl
@[simp] theorem coef_cons_zero (c : G) (p : List G) : coef (c :: p) 0 = c := rfl
@[simp] theorem coef_cons_succ (c : G) (p : List G) (k : Nat) : coef (c :: p) (k + 1) = coef p k := rfl
theorem coef_ge {p : List G} {k : Nat} (h : p.length ≤ k) : coef p k = 0 := by
  unfold coef; rw [List.getD_eq_getElem?_getD, List.getElem?_eq_none h]; rfl
theorem coef_lt {p : List G} {k : Nat} (h : k < p.length) : coef p k = p[k] := by
  unfold coef; rw [List.getD_eq_getElem?_getD, List.getElem?_eq_getElem h]; rfl

/-- The same polynomial. -/
def Eqv (p q : List G) : Prop := ∀ k, coef p k = coef q k
theorem Eqv.refl (p : List G) : Eqv p p := fun _ => rfl
theorem Eqv.symm {p q : List G} (h : Eqv p q) : Eqv q p := fun k => (h k).symm
theorem Eqv.trans {p q r : List G} (h : Eqv p q) (g : Eqv q r) : Eqv p r := fun k => (h k).trans (g k)
theorem Eqv.tail {a b : G} {p q : List G} (h : Eqv (a :: p) (b :: q)) : Eqv p q := fun k => h (k + 1)
theorem Eqv.cons {a : G} {p q : List G} (h : Eqv p q) : Eqv (a :: p) (a :: q) := fun k => by
  cases k with
  | zero => rfl
  | succ k => exact h k

/-- The value at a point. -/
def eval : List G → G → G
  | [], _ => 0
  | c :: p, x => c + x * eval p x
@[simp] theorem eval_nil (x : G) : eval [] x = 0 := rfl
@[simp] theorem eval_cons (c : G) (p : List G) (x : G) : eval (c :: p) x = c + x * eval p x := rfl
theorem eval_zeros {p : List G} (h : ∀ k, coef p k = 0) (x : G) : eval p x = 0 := by
  induction p with
  | nil => rfl
  | cons c p ih =>
    have h0 := h 0
    simp at h0
    rw [eval_cons, h0, ih (fun k => h (k + 1))]; simp
theorem eval_congr : ∀ {p q : List G}, Eqv p q → ∀ x, eval p x = eval q x
  | [], q, h, x => by rw [eval_zeros (fun k => (h k).symm) x]; rfl
  | a :: p, [], h, x => by rw [eval_zeros (fun k => h k) x]; rfl
  | a :: p, b :: q, h, x => by
    have h0 := h 0
    simp at h0
    rw [eval_cons, eval_cons, h0, eval_congr h.tail]

/-- Without zeros at the end. -/
def trim : List G → List G
  | [] => []
  | c :: p => if c = 0 ∧ trim p = [] then [] else c :: trim p
theorem coef_trim : ∀ (p : List G) (k : Nat), coef (trim p) k = coef p k
  | [], _ => rfl
  | c :: p, k => by
    unfold trim
    split
    · rename_i h
      cases k with
      | zero => simp [h.1]
      | succ k => have := coef_trim p k; rw [h.2] at this; simpa using this
    · cases k with
      | zero => rfl
      | succ k => simpa using coef_trim p k
theorem trim_eqv (p : List G) : Eqv (trim p) p := coef_trim p
theorem trim_zeros : ∀ {p : List G}, (∀ k, coef p k = 0) → trim p = []
  | [], _ => rfl
  | c :: p, h => by
    unfold trim
    rw [if_pos ⟨h 0, trim_zeros (fun k => h (k + 1))⟩]
theorem zeros_of_trim {p : List G} (h : trim p = []) (k : Nat) : coef p k = 0 := by rw [← coef_trim, h]; rfl
theorem trim_congr : ∀ {p q : List G}, Eqv p q → trim p = trim q
  | [], q, h => (trim_zeros (fun k => (h k).symm)).symm
  | a :: p, [], h => trim_zeros h
  | a :: p, b :: q, h => by
    have h0 := h 0
    simp at h0
    unfold trim
    rw [h0, trim_congr h.tail]
theorem trim_iff {p q : List G} : trim p = trim q ↔ Eqv p q :=
  ⟨fun h k => by rw [← coef_trim, h, coef_trim], trim_congr⟩
@[simp] theorem trim_trim (p : List G) : trim (trim p) = trim p := trim_congr (trim_eqv p)
@[simp] theorem eval_trim (p : List G) (x : G) : eval (trim p) x = eval p x := eval_congr (trim_eqv p) x

/-- One more than the degree. -/
def sz (p : List G) : Nat := (trim p).length
theorem sz_le_length : ∀ (p : List G), sz p ≤ p.length
  | [] => Nat.le_refl _
  | c :: p => by
    have := sz_le_length p
    unfold sz at *
    unfold trim
    split
    · simp
    · simpa using this
theorem sz_congr {p q : List G} (h : Eqv p q) : sz p = sz q := by unfold sz; rw [trim_congr h]
@[simp] theorem sz_trim (p : List G) : sz (trim p) = sz p := by unfold sz; rw [trim_trim]
theorem coef_sz {p : List G} {k : Nat} (h : sz p ≤ k) : coef p k = 0 := by rw [← coef_trim]; exact coef_ge h
theorem top_ne : ∀ {p : List G}, sz p ≠ 0 → coef p (sz p - 1) ≠ 0
  | [], h => absurd rfl h
  | c :: p, h => by
    unfold sz at *
    unfold trim at *
    split at h
    · exact absurd rfl h
    · rename_i hc
      rw [if_neg hc]
      by_cases hp : trim p = []
      · rw [hp]; simp; intro h0; exact hc ⟨h0, hp⟩
      · have hp1 : (trim p).length ≠ 0 := fun e => hp (List.eq_nil_of_length_eq_zero e)
        have := top_ne (p := p) hp1
        unfold sz at this
        obtain ⟨m, hm⟩ : ∃ m, (trim p).length = m + 1 := ⟨(trim p).length - 1, by omega⟩
        rw [hm] at this
        simp [hm] at this ⊢
        exact this
theorem sz_le_of {p : List G} {n : Nat} (h : ∀ k, n ≤ k → coef p k = 0) : sz p ≤ n := by
  by_cases h0 : sz p = 0
  · omega
  · have h1 := top_ne h0
    have : ¬ n ≤ sz p - 1 := fun hn => h1 (h _ hn)
    omega
theorem sz_eq_of {p : List G} {n : Nat} (h : ∀ k, n < k → coef p k = 0) (hn : coef p n ≠ 0) : sz p = n + 1 := by
  have h1 : sz p ≤ n + 1 := sz_le_of (fun k hk => h k (by omega))
  have h2 : ¬ sz p ≤ n := fun hl => hn (coef_sz hl)
  omega
theorem sz_zero {p : List G} : sz p = 0 ↔ ∀ k, coef p k = 0 :=
  ⟨fun h k => coef_sz (by omega), fun h => by unfold sz; rw [trim_zeros h]; rfl⟩
theorem trim_nil {p : List G} : trim p = [] ↔ sz p = 0 := by unfold sz; exact List.length_eq_zero_iff.symm

/-- The sum. -/
def add : List G → List G → List G
  | [], q => q
  | p, [] => p
  | a :: p, b :: q => (a + b) :: add p q
@[simp] theorem add_nil (p : List G) : add p [] = p := by cases p <;> rfl
@[simp] theorem nil_add (p : List G) : add [] p = p := by cases p <;> rfl
theorem coef_add : ∀ (p q : List G) (k : Nat), coef (add p q) k = coef p k + coef q k
  | [], q, k => by simp
  | a :: p, [], k => by simp
  | a :: p, b :: q, 0 => rfl
  | a :: p, b :: q, k + 1 => by simpa [add] using coef_add p q k
theorem length_add : ∀ (p q : List G), (add p q).length = max p.length q.length
  | [], q => by simp
  | a :: p, [] => by simp
  | a :: p, b :: q => by simp only [add, List.length_cons, length_add p q]; omega
theorem eval_add : ∀ (p q : List G) (x : G), eval (add p q) x = eval p x + eval q x
  | [], q, x => by simp
  | a :: p, [], x => by simp
  | a :: p, b :: q, x => by
    simp only [add, eval_cons, eval_add p q x, mul_add]
    rw [add_assoc, add_assoc, add_left_comm b]
theorem sz_add (p q : List G) : sz (add p q) ≤ max (sz p) (sz q) :=
  sz_le_of fun k hk => by rw [coef_add, coef_sz (by omega), coef_sz (by omega), add_zero]

/-- A multiple. -/
def smul (c : G) (p : List G) : List G := p.map (c * ·)
@[simp] theorem smul_nil (c : G) : smul c [] = [] := rfl
@[simp] theorem smul_cons (c a : G) (p : List G) : smul c (a :: p) = (c * a) :: smul c p := rfl
theorem coef_smul (c : G) : ∀ (p : List G) (k : Nat), coef (smul c p) k = c * coef p k
  | [], k => by simp
  | a :: p, 0 => rfl
  | a :: p, k + 1 => by simpa using coef_smul c p k
theorem eval_smul (c : G) : ∀ (p : List G) (x : G), eval (smul c p) x = c * eval p x
  | [], x => by simp
  | a :: p, x => by simp only [smul_cons, eval_cons, eval_smul c p x, mul_add]; rw [mul_left_comm]
@[simp] theorem length_smul (c : G) (p : List G) : (smul c p).length = p.length := by simp [smul]

/-- The product. -/
def mul : List G → List G → List G
  | [], _ => []
  | a :: p, q => add (smul a q) (0 :: mul p q)
@[simp] theorem nil_mul (q : List G) : mul [] q = [] := rfl
theorem eval_mul : ∀ (p q : List G) (x : G), eval (mul p q) x = eval p x * eval q x
  | [], q, x => by simp
  | a :: p, q, x => by
    simp only [mul, eval_add, eval_smul, eval_cons, eval_mul p q x, zero_add, add_mul, mul_assoc]
theorem length_mul_le : ∀ (p q : List G), (mul p q).length ≤ p.length + q.length
  | [], q => by simp
  | a :: p, q => by have := length_mul_le p q; simp [mul, length_add]; omega
theorem coef_mul_nil : ∀ (p : List G) (k : Nat), coef (mul p []) k = 0
  | [], k => rfl
  | a :: p, 0 => rfl
  | a :: p, k + 1 => by simpa [mul] using coef_mul_nil p k
theorem coef_mul_cons_left (a : G) (p q : List G) (k : Nat) : coef (mul (a :: p) q) (k + 1) = a * coef q (k + 1) + coef (mul p q) k := by
  simp [mul, coef_add, coef_smul]
theorem coef_mul_zero (a : G) (p q : List G) : coef (mul (a :: p) q) 0 = a * coef q 0 := by
  simp [mul, coef_add, coef_smul]
theorem coef_mul_zeros : ∀ {p : List G}, (∀ k, coef p k = 0) → ∀ (q : List G) (k : Nat), coef (mul p q) k = 0
  | [], _, q, k => rfl
  | a :: p, h, q, 0 => by rw [coef_mul_zero]; have := h 0; simp at this; simp [this]
  | a :: p, h, q, k + 1 => by
    have h0 := h 0
    simp at h0
    rw [coef_mul_cons_left, coef_mul_zeros (p := p) (fun k => h (k + 1)), h0]; simp
theorem mul_congr_left : ∀ {p p' : List G} (_ : Eqv p p') (q : List G), Eqv (mul p q) (mul p' q)
  | [], p', h, q => fun k => by rw [coef_mul_zeros (p := p') (fun k => (h k).symm)]; rfl
  | a :: p, [], h, q => fun k => by rw [coef_mul_zeros (p := a :: p) (fun k => h k)]; rfl
  | a :: p, b :: p', h, q => fun k => by
    have h0 := h 0
    simp at h0
    cases k with
    | zero => rw [coef_mul_zero, coef_mul_zero, h0]
    | succ k => rw [coef_mul_cons_left, coef_mul_cons_left, h0, mul_congr_left h.tail q k]
theorem mul_congr_right : ∀ (p : List G) {q q' : List G} (_ : Eqv q q'), Eqv (mul p q) (mul p q')
  | [], q, q', _ => fun _ => rfl
  | a :: p, q, q', h => fun k => by
    cases k with
    | zero => rw [coef_mul_zero, coef_mul_zero, h 0]
    | succ k => rw [coef_mul_cons_left, coef_mul_cons_left, h, mul_congr_right p h k]
theorem mul_congr {p p' q q' : List G} (h : Eqv p p') (g : Eqv q q') : Eqv (mul p q) (mul p' q') := (mul_congr_left h q).trans (mul_congr_right p' g)
theorem coef_mul_top : ∀ (p q : List G) (m n : Nat), p.length ≤ m + 1 → q.length ≤ n + 1 → coef (mul p q) (m + n) = coef p m * coef q n
  | [], q, m, n, _, _ => by simp
  | a :: p, q, 0, n, hp, hq => by
    have : p = [] := List.eq_nil_of_length_eq_zero (by simp only [List.length_cons] at hp; omega)
    subst this
    cases n with
    | zero => rw [Nat.add_zero, coef_mul_zero]; rfl
    | succ n => rw [Nat.zero_add, coef_mul_cons_left]; simp
  | a :: p, q, m + 1, n, hp, hq => by
    rw [show m + 1 + n = (m + n) + 1 from by omega, coef_mul_cons_left, coef_ge (p := q) (by omega), coef_mul_top p q m n (by simp at hp; omega) hq]; simp
theorem length_mul_lt : ∀ (p q : List G) (k : Nat), p.length + q.length ≤ k + 1 → coef (mul p q) k = 0
  | [], q, k, h => by simp
  | a :: p, q, 0, h => by
    rw [coef_mul_zero, coef_ge (p := q) (by simp at h; omega)]; simp
  | a :: p, q, k + 1, h => by
    rw [coef_mul_cons_left, coef_ge (p := q) (by simp at h; omega), length_mul_lt p q k (by simp at h; omega)]; simp
theorem sz_mul {p q : List G} (hp : sz p ≠ 0) (hq : sz q ≠ 0) : sz (mul p q) + 1 = sz p + sz q := by
  have e : Eqv (mul p q) (mul (trim p) (trim q)) := mul_congr (trim_eqv p).symm (trim_eqv q).symm
  have lp : (trim p).length = sz p := rfl
  have lq : (trim q).length = sz q := rfl
  have h := sz_eq_of (p := mul (trim p) (trim q)) (n := sz p - 1 + (sz q - 1)) (fun k hk => length_mul_lt _ _ k (by omega)) (by
    rw [coef_mul_top _ _ _ _ (by omega) (by omega), coef_trim, coef_trim]
    intro h
    rcases mul_eq_zero.1 h with h | h
    · exact top_ne hp h
    · exact top_ne hq h)
  rw [sz_congr e, h]; omega
theorem sz_mul_zero_left {p : List G} (h : sz p = 0) (q : List G) : sz (mul p q) = 0 := sz_zero.2 (coef_mul_zeros (sz_zero.1 h) q)
theorem sz_mul_zero_right (p : List G) {q : List G} (h : sz q = 0) : sz (mul p q) = 0 := by
  rw [sz_congr (mul_congr_right p (q' := []) (fun k => sz_zero.1 h k))]
  exact sz_zero.2 (coef_mul_nil p)

/-- Division by x + r. -/
def quot : List G → G → List G
  | [], _ => []
  | _ :: p, r => add p (smul r (quot p r))
theorem length_quot : ∀ (p : List G) (r : G), (quot p r).length = p.length - 1
  | [], _ => rfl
  | c :: p, r => by simp only [quot, List.length_cons, length_add, length_smul, length_quot p r]; omega
theorem eval_quot : ∀ (p : List G) (r x : G), eval p x + eval p r = (x + r) * eval (quot p r) x
  | [], r, x => by simp [quot]
  | c :: p, r, x => by
    have ih := eval_quot p r x
    simp only [quot, eval_cons, eval_add, eval_smul, mul_add]
    rw [mul_left_comm, ← ih, add_mul, mul_add]
    have e : ∀ a b d : G, a + b + (a + d) = b + d := fun a b d => by rw [add_assoc, add_left_comm b a, add_self_left]
    rw [e]
    have e2 : ∀ a b d : G, a + b + (b + d) = a + d := fun a b d => by rw [add_assoc, add_self_left]
    rw [e2]
theorem coef_quot : ∀ (p : List G) (r : G) (k : Nat), coef (quot p r) k = coef p (k + 1) + r * coef (quot p r) (k + 1)
  | [], r, k => by simp [quot]
  | c :: p, r, k => by
    simp only [quot, coef_add, coef_smul, coef_cons_succ]
    rw [← coef_quot p r k]
theorem root_bound : ∀ (xs p : List G), xs.Nodup → p.length ≤ xs.length → (∀ x, x ∈ xs → eval p x = 0) → ∀ k, coef p k = 0
  | [], p, _, hl, _, k => by
    have : p = [] := List.eq_nil_of_length_eq_zero (by simpa using hl)
    rw [this]; rfl
  | r :: xs, p, hn, hl, hz, k => by
    have hr := hz r (by simp)
    rw [List.nodup_cons] at hn
    have hq := root_bound xs (quot p r) hn.2 (by rw [length_quot]; simp at hl; omega) (fun x hx => by
      have h := eval_quot p r x
      rw [hr, hz x (by simp [hx]), add_zero] at h
      rcases mul_eq_zero.1 h.symm with h | h
      · rw [add_eq_zero] at h; subst h; exact absurd hx hn.1
      · exact h)
    have hs : ∀ k, coef p (k + 1) = 0 := fun k => by
      have h := coef_quot p r k
      rw [hq, hq, mul_zero, add_zero] at h
      exact h.symm
    cases k with
    | succ k => exact hs k
    | zero =>
      cases p with
      | nil => rfl
      | cons c p =>
        rw [eval_cons, eval_zeros (p := p) hs, mul_zero, add_zero] at hr
        exact hr
theorem root_bound_sz {xs p : List G} (hn : xs.Nodup) (hl : sz p ≤ xs.length) (hz : ∀ x, x ∈ xs → eval p x = 0) : sz p = 0 := by
  have := root_bound xs (trim p) hn hl (fun x hx => by rw [eval_trim]; exact hz x hx)
  rw [← sz_trim]; exact sz_zero.2 this
/-- Two polynomials with few coefficients that agree at many points are one. -/
theorem agree {xs p q : List G} (hn : xs.Nodup) (hp : sz p ≤ xs.length) (hq : sz q ≤ xs.length) (h : ∀ x, x ∈ xs → eval p x = eval q x) : trim p = trim q := by
  have h0 := root_bound_sz (p := add p q) hn (by have := sz_add p q; omega) (fun x hx => by rw [eval_add, h x hx, add_self])
  exact trim_congr fun k => by
    have := sz_zero.1 h0 k
    rwa [coef_add, add_eq_zero] at this

/-- Quotient and remainder are unique. -/
theorem div_unique {b q r q' r' : List G} (hb : sz b ≠ 0) (hr : sz r < sz b) (hr' : sz r' < sz b) (h : Eqv (add (mul q b) r) (add (mul q' b) r')) : trim q = trim q' ∧ trim r = trim r' := by
  have dist : ∀ (p p' b : List G), Eqv (mul (add p p') b) (add (mul p b) (mul p' b)) := by
    intro p
    induction p with
    | nil => intro p' b; simp; exact Eqv.refl _
    | cons a p ih =>
      intro p' b
      cases p' with
      | nil => simp; exact Eqv.refl _
      | cons a' p' =>
        intro k
        cases k with
        | zero => simp only [add, coef_add, coef_mul_zero, add_mul]
        | succ k =>
          simp only [add, coef_add, coef_mul_cons_left, add_mul]
          rw [ih, coef_add]
          rw [add_assoc, add_assoc, add_left_comm (a' * _)]
  have e : Eqv (mul (add q q') b) (add r r') := fun k => by
    have hk := h k
    simp only [coef_add] at hk
    rw [dist, coef_add, coef_add]
    have e1 : ∀ a b c d : G, a + b = c + d → a + c = b + d := fun a b c d h => by
      have : a + b + (b + c) = c + d + (b + c) := by rw [h]
      rw [add_assoc, add_self_left] at this
      rw [this, add_comm c d, add_assoc, add_comm b c, add_self_left, add_comm]
    exact e1 _ _ _ _ hk
  have hq : sz (add q q') = 0 := by
    by_cases h0 : sz (add q q') = 0
    · exact h0
    · have h1 := sz_mul h0 hb
      have h2 := sz_congr e
      have h3 := sz_add r r'
      omega
  refine ⟨trim_congr fun k => ?_, trim_congr fun k => ?_⟩
  · have := sz_zero.1 hq k
    rwa [coef_add, add_eq_zero] at this
  · have := (e k).symm.trans (coef_mul_zeros (sz_zero.1 hq) b k)
    rwa [coef_add, add_eq_zero] at this
end Go.Proofs.QGf
