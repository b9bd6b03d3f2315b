/- The printed interpolation: the product of the points and the polynomial through them. -/
import Derived.Test.YtldfcpmapbofgaaDoorBr4
import Derived.Test.YtldfcpmapbofgaaDoorM1
import Derived.Test.YtldfcpmapbofgaaDoorM2
namespace Go.Proofs.YtldfcpmapbofgaaDoor.Br
open Go.RowKit Go.Proofs.YtldfcpmapbofgaaDoorW.PrintWords Go.Proofs.YtldfcpmapbofgaaDoorW.PrintMore Go.Proofs.YtldfcpmapbofgaaDoor.M Go.Proofs.QGf

theorem mem_en {a : G} {p : List G} : (a.n : Int) ∈ en p ↔ a ∈ p := by
  induction p with
  | nil => simp
  | cons b p ih => rw [en_cons, List.mem_cons, List.mem_cons, ih, n_inj]
theorem nodup_en {p : List G} : (en p).Nodup ↔ p.Nodup := by
  induction p with
  | nil => simp
  | cons b p ih => rw [en_cons, List.nodup_cons, List.nodup_cons, ih, mem_en]
theorem right_ev (xs ys : List G) : poly_right.f (en xs) (en ys) = some (decide (xs.Nodup ∧ xs.length = ys.length)) := by
  unfold poly_right.f
  rw [if_pos]
  · rw [en_length, en_length]
    congr 1
    rw [Bool.eq_iff_iff]
    simp [nodup_en]
  · rw [List.all_eq_true]
    intro x hx
    obtain ⟨g, hg, rfl⟩ := List.mem_map.1 hx
    have := g.lt
    simp
    omega
theorem coef_ne {xs : List G} (hn : xs.Nodup) {i k : Nat} (hi : i < xs.length) (hk : k < xs.length) (h : i ≠ k) : coef xs i ≠ coef xs k := by
  rw [coef_lt hi, coef_lt hk]
  rcases Nat.lt_or_gt_of_ne h with h | h
  · exact List.pairwise_iff_getElem.1 hn i k hi hk h
  · exact fun e => List.pairwise_iff_getElem.1 hn k i hk hi h e.symm
theorem coef_mem {xs : List G} {i : Nat} (h : i < xs.length) : coef xs i ∈ xs := by
  rw [coef_lt h]; exact List.getElem_mem h
theorem mem_coef {xs : List G} {x : G} (h : x ∈ xs) : ∃ i, i < xs.length ∧ x = coef xs i := by
  obtain ⟨i, hi, e⟩ := List.getElem_of_mem h
  exact ⟨i, hi, by rw [coef_lt hi, e]⟩

/-! x + r. -/
theorem sz_lin (r : G) : sz [r, 1] = 2 := sz_eq_of (n := 1) (fun k hk => coef_ge (by simp; omega)) one_ne
theorem eval_lin (r y : G) : eval [r, 1] y = r + y := by simp
theorem en_lin (r : G) : ([(r.n : Int), 1] : List Int) = en [r, 1] := rfl

/-- The product of the points. -/
def rootsP (xs : List G) (p : List G) : List G := xs.foldl (fun p x => trim (mul p [x, 1])) p
theorem rootsP_cons (x : G) (xs p : List G) : rootsP (x :: xs) p = rootsP xs (trim (mul p [x, 1])) := rfl
theorem rootsP_prop : ∀ (xs p : List G), trim p = p → sz p ≠ 0 → trim (rootsP xs p) = rootsP xs p ∧ sz (rootsP xs p) = sz p + xs.length ∧ ∀ y, eval (rootsP xs p) y = 0 ↔ (eval p y = 0 ∨ y ∈ xs)
  | [], p, h, _ => ⟨h, rfl, fun y => by show eval p y = 0 ↔ _; simp⟩
  | x :: xs, p, h, hz => by
    have hs := sz_mul hz (q := [x, 1]) (by rw [sz_lin]; decide)
    rw [sz_lin] at hs
    obtain ⟨h1, h2, h3⟩ := rootsP_prop xs (trim (mul p [x, 1])) (trim_trim _) (by rw [sz_trim]; omega)
    rw [rootsP_cons]
    refine ⟨h1, by rw [h2, sz_trim, List.length_cons]; omega, fun y => ?_⟩
    rw [h3, eval_trim, eval_mul, mul_eq_zero, eval_lin, List.mem_cons, or_assoc, add_eq_zero, eq_comm (a := x)]
theorem sz_one : sz [1] = 1 := sz_eq_of (n := 0) (fun k hk => coef_ge (by simp; omega)) one_ne
theorem trim_of_sz {p : List G} (h : sz p = p.length) : trim p = p := by rw [trim_take, h, List.take_length]
theorem roots_ev (xs : List G) (hx : xs.length ≤ 1000) : Ev (fun k => poly_roots.f k (en xs)) (en (rootsP xs [1])) := by
  have key : ∀ (d j : Nat) (p : List G), xs.length - j = d → j ≤ xs.length → trim p = p → sz p = j + 1 → Ev (fun k => poly_roots.l0 k (en p) (en xs) (xs.length : Int) (j : Int)) (en (rootsP (xs.drop j) p)) := by
    intro d
    induction d with
    | zero =>
      intro j p hd hj hp hs
      refine Ev.succ ?_
      simp only [poly_roots.l0]
      refine Ev.ifn (by omega) ?_
      rw [List.drop_of_length_le (by omega)]
      exact Ev.now _
    | succ d ih =>
      intro j p hd hj hp hs
      refine Ev.succ ?_
      simp only [poly_roots.l0]
      refine Ev.ifp (by omega) (Ev.ifp (by omega) (Ev.ifp (by rw [en_length]; omega) ?_))
      rw [rd_en', en_lin, w64 (by omega) (by omega), show (j : Int) + 1 = ((j + 1 : Nat) : Int) from by omega]
      have hl : p.length = j + 1 := by rw [← hp, length_trim, hs]
      refine Ev.bind (product_ev p _ (by omega) (by simp)) ?_
      rw [List.drop_eq_getElem_cons (by omega : j < xs.length), rootsP_cons, coef_lt (by omega : j < xs.length)]
      refine ih (j + 1) _ (by omega) (by omega) (trim_trim _) ?_
      have := sz_mul (p := p) (q := [xs[j], 1]) (by omega) (by rw [sz_lin]; decide)
      rw [sz_lin] at this
      rw [sz_trim]
      omega
  have h := key xs.length 0 [1] rfl (Nat.zero_le _) (trim_of_sz sz_one) sz_one
  unfold poly_roots.f
  rw [en_length]
  exact h
theorem roots_prop (xs : List G) : trim (rootsP xs [1]) = rootsP xs [1] ∧ sz (rootsP xs [1]) = xs.length + 1 ∧ ∀ y, eval (rootsP xs [1]) y = 0 ↔ y ∈ xs := by
  obtain ⟨h1, h2, h3⟩ := rootsP_prop xs [1] (trim_of_sz sz_one) (by rw [sz_one]; decide)
  refine ⟨h1, by rw [h2, sz_one]; omega, fun y => ?_⟩
  rw [h3]
  simp [one_ne]
/-- One point's part. -/
theorem part_ev (xs : List G) (x y : G) (hn : xs.Nodup) (hx : xs.length ≤ 1000) (hm : x ∈ xs) :
    ∃ P : List G, Ev (fun k => poly_through_1.f k (x.n : Int) (y.n : Int) (en (rootsP xs [1]))) (en P) ∧ P.length ≤ xs.length ∧ ∀ z, z ∈ xs → eval P z = if z = x then y else 0 := by
  obtain ⟨h1, h2, h3⟩ := roots_prop xs
  have hl : (rootsP xs [1]).length = xs.length + 1 := by rw [← h1, length_trim, h2]
  obtain ⟨q, r, hev, he, hr, hq, -⟩ := divide_ev (rootsP xs [1]) [x, 1] (by omega) (by simp) (by rw [sz_lin]; decide)
  rw [sz_lin] at hr
  have hev2 : ∀ z, eval (rootsP xs [1]) z = eval q z * (x + z) + eval r z := fun z => by
    rw [eval_congr he z, eval_add, eval_mul, eval_lin]
  have hr0 : eval r x = 0 := by
    have := hev2 x
    rw [(h3 x).2 hm, add_self, mul_zero, zero_add] at this
    exact this.symm
  have hrz : sz r = 0 := by
    refine root_bound_sz (xs := [x]) (by simp) (by simp; omega) (fun z hz => ?_)
    rw [List.mem_singleton.1 hz]; exact hr0
  have hre : ∀ z, eval r z = 0 := eval_zeros (sz_zero.1 hrz)
  have hqs : sz q = xs.length := by
    have e1 : Eqv (rootsP xs [1]) (mul q [x, 1]) := fun k => by rw [he k, coef_add, sz_zero.1 hrz k, add_zero]
    have e2 := sz_congr e1
    by_cases h0 : sz q = 0
    · rw [h2, sz_mul_zero_left h0] at e2; omega
    · have := sz_mul h0 (q := [x, 1]) (by rw [sz_lin]; decide)
      rw [sz_lin] at this
      omega
  have hpos : 0 < xs.length := List.length_pos_of_mem hm
  have hqz : ∀ z, z ∈ xs → z ≠ x → eval q z = 0 := fun z hz hne => by
    have := hev2 z
    rw [(h3 z).2 hz, hre, add_zero] at this
    rcases mul_eq_zero.1 this.symm with h | h
    · exact h
    · exact absurd (add_eq_zero.1 h).symm hne
  have hqx : eval q x ≠ 0 := fun h => by
    have := root_bound_sz (p := q) hn (by omega) (fun z hz => by
      by_cases e : z = x
      · rw [e]; exact h
      · exact hqz z hz e)
    omega
  refine ⟨trim (mul (trim q) [y * inv (eval q x)]), ?_, ?_, fun z hz => ?_⟩
  · unfold poly_through_1.f
    rw [en_lin]
    refine Ev.bind hev ?_
    have hev' := eval_ev (trim q) x (by rw [length_trim]; omega)
    rw [eval_trim] at hev'
    refine Ev.bind hev' (Ev.bind (inv_ev hqx) (Ev.bind (mul_ev _ _) ?_))
    exact Ev.bind (product_ev (trim q) [y * inv (eval q x)] (by rw [length_trim]; omega) (by simp)) (Ev.now _)
  · rw [length_trim]
    by_cases h0 : sz [y * inv (eval q x)] = 0
    · rw [sz_mul_zero_right _ h0]; omega
    · have h5 := sz_le_length [y * inv (eval q x)]
      have h4 := sz_mul (p := trim q) (by rw [sz_trim]; omega) h0
      rw [sz_trim] at h4
      simp only [List.length_cons, List.length_nil] at h5
      omega
  · rw [eval_trim, eval_mul, eval_trim]
    simp only [eval_cons, eval_nil, mul_zero, add_zero]
    by_cases e : z = x
    · rw [if_pos e, e, mul_left_comm, mul_inv hqx, mul_one]
    · rw [if_neg e, hqz z hz e, zero_mul]
/-- A polynomial has the values ys at xs. -/
def Fit (xs ys P : List G) : Prop := ∀ i, i < xs.length → eval P (coef xs i) = coef ys i
/-- The polynomial through points. -/
theorem through_ev (xs ys : List G) (hn : xs.Nodup) (hx : xs.length ≤ 1000) (hy : xs.length = ys.length) :
    ∃ P : List G, Ev (fun k => poly_through.f k (en xs) (en ys)) (en P) ∧ trim P = P ∧ P.length ≤ xs.length ∧ Fit xs ys P := by
  have key : ∀ (d j : Nat) (p : List G), xs.length - j = d → j ≤ xs.length → trim p = p → p.length ≤ xs.length → (∀ i, i < xs.length → eval p (coef xs i) = if i < j then coef ys i else 0) →
      ∃ P : List G, Ev (fun k => poly_through.l0 k (en (rootsP xs [1])) (en xs) (en ys) (en p) (j : Int)) (en P) ∧ trim P = P ∧ P.length ≤ xs.length ∧ Fit xs ys P := by
    intro d
    induction d with
    | zero =>
      intro j p hd hj ht hl hv
      refine ⟨p, ?_, ht, hl, fun i hi => by rw [hv i hi, if_pos (by omega)]⟩
      refine Ev.succ ?_
      simp only [poly_through.l0]
      refine Ev.ifn (by rw [en_length]; omega) ?_
      exact Ev.now _
    | succ d ih =>
      intro j p hd hj ht hl hv
      obtain ⟨Q, hQ, hQl, hQv⟩ := part_ev xs (coef xs j) (coef ys j) hn hx (coef_mem (by omega))
      have hsum := sum_ev p Q (by omega) (by omega)
      have hlen : (trim (add p Q)).length ≤ xs.length := by
        have h2 := sz_le_length (add p Q)
        have h3 := length_add p Q
        rw [length_trim]
        omega
      obtain ⟨P, hP, rest⟩ := ih (j + 1) (trim (add p Q)) (by omega) (by omega) (trim_trim _) hlen (fun i hi => by
        rw [eval_trim, eval_add, hv i hi, hQv _ (coef_mem hi)]
        by_cases e : i = j
        · subst e
          rw [if_neg (by omega), if_pos rfl, if_pos (by omega), zero_add]
        · rw [if_neg (coef_ne hn hi (by omega) e), add_zero]
          by_cases h : i < j
          · rw [if_pos h, if_pos (by omega)]
          · rw [if_neg h, if_neg (by omega)])
      refine ⟨P, ?_, rest⟩
      refine Ev.succ ?_
      simp only [poly_through.l0]
      refine Ev.ifp (by rw [en_length]; omega) (Ev.ifp (by omega) (Ev.ifp (by rw [en_length]; omega) ?_))
      rw [rd_en', rd_en', w64 (by omega) (by omega), show (j : Int) + 1 = ((j + 1 : Nat) : Int) from by omega]
      exact Ev.bind hQ (Ev.bind hsum hP)
  obtain ⟨P, hP, rest⟩ := key xs.length 0 [] rfl (Nat.zero_le _) rfl (Nat.zero_le _) (fun i hi => by rw [if_neg (by omega)]; rfl)
  refine ⟨P, ?_, rest⟩
  unfold poly_through.f
  exact Ev.bind (roots_ev xs hx) hP
/-- No two polynomials with few coefficients fit. -/
theorem fit_unique {xs ys P Q : List G} (hn : xs.Nodup) (hP : sz P ≤ xs.length) (hQ : sz Q ≤ xs.length) (fP : Fit xs ys P) (fQ : Fit xs ys Q) : trim P = trim Q :=
  agree hn hP hQ (fun x hx => by
    obtain ⟨i, hi, rfl⟩ := mem_coef hx
    rw [fP i hi, fQ i hi])
end Go.Proofs.YtldfcpmapbofgaaDoor.Br
