/- The printed division of polynomials, and the comparison of lists. -/
import Derived.Test.YtldfcpmapbofgaaDoorBr2
import Derived.Test.YtldfcpmapbofgaaDoorM2
import Derived.Test.YtldfcpmapbofgaaDoorM3
import Derived.Test.YtldfcpmapbofgaaDoorM5
namespace Go.Proofs.YtldfcpmapbofgaaDoor.Br
open Go.RowKit Go.Proofs.YtldfcpmapbofgaaDoorW.PrintWords Go.Proofs.YtldfcpmapbofgaaDoorW.PrintMore Go.Proofs.YtldfcpmapbofgaaDoor.M Go.Proofs.QGf

theorem same_ev (a b : List Int) (ha : a.length ≤ 1000000000) : Ev (fun k => quietusref06_Same.f k a b) (decide (a = b)) := by
  have key : ∀ (d j : Nat), a.length = b.length → a.length - j = d → j ≤ a.length → a.take j = b.take j → Ev (fun k => quietusref06_Same.l0 k a b (j : Int)) (decide (a = b)) := by
    intro d
    induction d with
    | zero =>
      intro j hl hd hj ht
      refine Ev.succ ?_
      simp only [quietusref06_Same.l0]
      refine Ev.ifn (by omega) ?_
      rw [List.take_of_length_le (by omega), List.take_of_length_le (by omega)] at ht
      rw [decide_eq_true ht]
      exact Ev.now _
    | succ d ih =>
      intro j hl hd hj ht
      refine Ev.succ ?_
      simp only [quietusref06_Same.l0]
      refine Ev.ifp (by omega) (Ev.ifp (by omega) (Ev.ifp (by omega) ?_))
      have ra : rd a (j : Int) = a[j]'(by omega) := by unfold rd; rw [Int.toNat_natCast, List.getD_eq_getElem?_getD, List.getElem?_eq_getElem (by omega)]; rfl
      have rb : rd b (j : Int) = b[j]'(by omega) := by unfold rd; rw [Int.toNat_natCast, List.getD_eq_getElem?_getD, List.getElem?_eq_getElem (by omega)]; rfl
      rw [ra, rb, w64 (by omega) (by omega), show (j : Int) + 1 = ((j + 1 : Nat) : Int) from by omega]
      by_cases e : a[j]'(by omega) = b[j]'(by omega)
      · refine Ev.ifp e (ih (j + 1) hl (by omega) (by omega) ?_)
        rw [List.take_succ_eq_append_getElem (by omega), List.take_succ_eq_append_getElem (by omega), ht, e]
      · refine Ev.ifn e ?_
        rw [decide_eq_false (fun h => e (by subst h; rfl))]
        exact Ev.now _
  unfold quietusref06_Same.f
  by_cases hl : a.length = b.length
  · exact Ev.ifp (by omega) (key a.length 0 hl (by omega) (Nat.zero_le _) rfl)
  · refine Ev.ifn (by omega) ?_
    rw [decide_eq_false (fun h => hl (by rw [h]))]
    exact Ev.now _
theorem sameInts_ev (a b : List Int) (ha : a.length ≤ 1000000000) : Ev (fun k => quietusref06_SameInts.f k a b) (decide (a = b)) := by
  have key : ∀ (d j : Nat), a.length = b.length → a.length - j = d → j ≤ a.length → a.take j = b.take j → Ev (fun k => quietusref06_SameInts.l0 k a b (j : Int)) (decide (a = b)) := by
    intro d
    induction d with
    | zero =>
      intro j hl hd hj ht
      refine Ev.succ ?_
      simp only [quietusref06_SameInts.l0]
      refine Ev.ifn (by omega) ?_
      rw [List.take_of_length_le (by omega), List.take_of_length_le (by omega)] at ht
      rw [decide_eq_true ht]
      exact Ev.now _
    | succ d ih =>
      intro j hl hd hj ht
      refine Ev.succ ?_
      simp only [quietusref06_SameInts.l0]
      refine Ev.ifp (by omega) (Ev.ifp (by omega) (Ev.ifp (by omega) ?_))
      have ra : rd a (j : Int) = a[j]'(by omega) := by unfold rd; rw [Int.toNat_natCast, List.getD_eq_getElem?_getD, List.getElem?_eq_getElem (by omega)]; rfl
      have rb : rd b (j : Int) = b[j]'(by omega) := by unfold rd; rw [Int.toNat_natCast, List.getD_eq_getElem?_getD, List.getElem?_eq_getElem (by omega)]; rfl
      rw [ra, rb, w64 (by omega) (by omega), show (j : Int) + 1 = ((j + 1 : Nat) : Int) from by omega]
      by_cases e : a[j]'(by omega) = b[j]'(by omega)
      · refine Ev.ifp e (ih (j + 1) hl (by omega) (by omega) ?_)
        rw [List.take_succ_eq_append_getElem (by omega), List.take_succ_eq_append_getElem (by omega), ht, e]
      · refine Ev.ifn e ?_
        rw [decide_eq_false (fun h => e (by subst h; rfl))]
        exact Ev.now _
  unfold quietusref06_SameInts.f
  by_cases hl : a.length = b.length
  · exact Ev.ifp (by omega) (key a.length 0 hl (by omega) (Nat.zero_le _) rfl)
  · refine Ev.ifn (by omega) ?_
    rw [decide_eq_false (fun h => hl (by rw [h]))]
    exact Ev.now _

/-- One more coefficient of a factor. -/
theorem coef_mul_set : ∀ (p : List G) (k : Nat) (c : G) (b : List G) (m : Nat), k < p.length → coef p k = 0 → coef (mul (p.set k c) b) m = coef (mul p b) m + (if k ≤ m then c * coef b (m - k) else 0)
  | [], k, c, b, m, h, _ => by simp at h
  | a :: p, 0, c, b, 0, _, h0 => by
    simp at h0
    rw [List.set_cons_zero, coef_mul_zero, coef_mul_zero, h0]; simp
  | a :: p, 0, c, b, m + 1, _, h0 => by
    simp at h0
    rw [List.set_cons_zero, coef_mul_cons_left, coef_mul_cons_left, h0]; simp [add_comm]
  | a :: p, k + 1, c, b, 0, h, h0 => by
    rw [List.set_cons_succ, coef_mul_zero, coef_mul_zero, if_neg (by omega)]; simp
  | a :: p, k + 1, c, b, m + 1, h, h0 => by
    rw [List.set_cons_succ, coef_mul_cons_left, coef_mul_cons_left, coef_mul_set p k c b m (by simpa using h) (by simpa using h0)]
    simp only [Nat.add_le_add_iff_right, Nat.add_sub_add_right, add_assoc]

theorem divide_inner (B q : List G) (v : G) (hB : B.length ≤ 100000000) : ∀ (d j kk : Nat) (c : G) (r : List G) (R : List Int × List Int), B.length - j = d → j ≤ B.length → kk + B.length ≤ r.length → r.length ≤ 100000000 →
      (∀ r' : List G, r'.length = r.length → (∀ m, coef r' m = coef r m + (if kk + j ≤ m then c * coef B (m - kk) else 0)) → Ev (fun k => poly_divide.l0 k (en B) (en q) (en r') (v.n : Int) ((kk : Int) - 1)) R) →
      Ev (fun k => poly_divide.l1 k (en B) (en q) (en r) (v.n : Int) (kk : Int) (c.n : Int) (en B) (B.length : Int) (j : Int)) R := by
    intro d
    induction d with
    | zero =>
      intro j kk c r R hd hj hk hr h
      refine Ev.succ ?_
      simp only [poly_divide.l1]
      refine Ev.ifn (by omega) ?_
      rw [w64 (by omega) (by omega)]
      refine h r rfl (fun m => ?_)
      split
      · rw [coef_ge (p := B) (by omega)]; simp
      · simp
    | succ d ih =>
      intro j kk c r R hd hj hk hr h
      refine Ev.succ ?_
      simp only [poly_divide.l1]
      have hs : wrap64 ((kk : Int) + (j : Int)) = ((kk + j : Nat) : Int) := by rw [w64 (by omega) (by omega)]; omega
      rw [hs]
      refine Ev.ifp (by omega) (Ev.ifp (by omega) (Ev.ifp (by rw [en_length]; omega) (Ev.ifp (by omega) (Ev.ifp (by rw [en_length]; omega) ?_))))
      rw [rd_en', rd_en']
      refine Ev.bind (mul_ev _ _) ?_
      rw [xor_n, Int.toNat_natCast, en_set, w64 (by omega) (by omega), show (j : Int) + 1 = ((j + 1 : Nat) : Int) from by omega]
      refine ih (j + 1) kk c _ R (by omega) (by omega) (by simpa using hk) (by simpa using hr) (fun r' hl' hc' => ?_)
      refine h r' (by simpa using hl') (fun m => ?_)
      rw [hc', coef_set _ _ _ _ (by omega)]
      by_cases e : m = kk + j
      · subst e
        rw [if_pos rfl, if_neg (by omega), if_pos (Nat.le_refl _), Nat.add_sub_cancel_left]
        simp
      · rw [if_neg e]
        by_cases hm : kk + j ≤ m
        · rw [if_pos hm, if_pos (by omega)]
        · rw [if_neg hm, if_neg (by omega)]

/-- A list's coefficients, laid out. -/
theorem layout (r B : List G) (c : G) (k : Nat) (hk : k + B.length ≤ r.length) : ∃ r1 : List G, r1.length = r.length ∧ ∀ m, coef r1 m = coef r m + (if k + 0 ≤ m then c * coef B (m - k) else 0) := by
  refine ⟨(List.range r.length).map (fun m => coef r m + (if k + 0 ≤ m then c * coef B (m - k) else 0)), by simp, fun m => ?_⟩
  rcases Nat.lt_or_ge m r.length with h | h
  · rw [coef_lt (by simpa using h)]; simp
  · rw [coef_ge (by simpa using h), coef_ge h, coef_ge (p := B) (by omega)]; simp
theorem same_coefs {r r1 : List G} (hl : r.length = r1.length) (h : ∀ m, coef r m = coef r1 m) : r = r1 := by
  apply List.ext_getElem hl
  intro m hm1 hm2
  rw [← coef_lt hm1, ← coef_lt hm2, h]

/-- The rounds from the highest power on. -/
theorem divide_outer (A B : List G) (v : G) (hA : A.length ≤ 100000000) (hB : B.length ≤ 100000000) (hB0 : 0 < B.length) (hvt : v * coef B (B.length - 1) = 1) : ∀ (k : Nat) (q r : List G), k ≤ q.length → r.length = A.length → q.length ≤ A.length + 1 → (k ≠ 0 → k + B.length ≤ A.length + 1) →
      (∀ m, m < k → coef q m = 0) → (∀ m, k + B.length ≤ m + 1 → coef r m = 0) → Eqv A (add (mul q B) r) →
      ∃ q' r' : List G, Ev (fun n => poly_divide.l0 n (en B) (en q) (en r) (v.n : Int) ((k : Int) - 1)) (en (trim q'), en (trim r')) ∧ Eqv A (add (mul q' B) r') ∧ sz r' < B.length ∧ q'.length = q.length ∧ r'.length = A.length := by
  intro k
  induction k with
  | zero =>
    intro q r _ hr hq _ _ h0 he
    refine ⟨q, r, ?_, he, ?_, rfl, hr⟩
    · refine Ev.succ ?_
      simp only [poly_divide.l0]
      refine Ev.ifn (by omega) ?_
      exact Ev.bind (trim_ev q (by omega)) (Ev.bind (trim_ev r (by omega)) (Ev.now _))
    · have : sz r ≤ B.length - 1 := sz_le_of (fun m hm => h0 m (by omega))
      omega
  | succ k ih =>
    intro q r hkq hr hq hkA hq0 h0 he
    have hkA' := hkA (by omega)
    obtain ⟨c, hc⟩ : ∃ c, c = coef r (k + B.length - 1) * v := ⟨_, rfl⟩
    have hcz : c * coef B (B.length - 1) = coef r (k + B.length - 1) := by rw [hc, mul_assoc, hvt, mul_one]
    obtain ⟨r1, hr1l, hr1c⟩ := layout r B c k (by omega)
    obtain ⟨q', r'', hev, h2, h3, h4, h5⟩ := ih (q.set k c) r1 (by simp; omega) (by omega) (by simpa using hq) (fun _ => by omega) (fun m hm => by
        rw [coef_set _ _ _ _ (by omega), if_neg (by omega)]
        exact hq0 m (by omega)) (fun m hm => by
        rw [hr1c, if_pos (by omega)]
        by_cases e : m = k + B.length - 1
        · rw [e, show k + B.length - 1 - k = B.length - 1 from by omega, hcz, add_self]
        · rw [h0 m (by omega), coef_ge (p := B) (by omega)]; simp) (fun m => by
        rw [he m, coef_add, coef_add, coef_mul_set q k c B m (by omega) (hq0 k (by omega)), hr1c]
        by_cases hm : k ≤ m
        · rw [if_pos hm, if_pos (by omega), add_assoc, add_comm (coef r m), add_self_left]
        · rw [if_neg hm, if_neg (by omega)]; simp)
    refine ⟨q', r'', ?_, h2, h3, by simpa using h4, h5⟩
    have hidx : wrap64 ((wrap64 (((k : Nat) : Int) + (B.length : Int))) - 1) = ((k + B.length - 1 : Nat) : Int) := by
      rw [w64 (x := (k : Int) + (B.length : Int)) (by omega) (by omega), w64 (by omega) (by omega)]; omega
    refine Ev.succ ?_
    simp only [poly_divide.l0]
    rw [show ((k + 1 : Nat) : Int) - 1 = (k : Int) from by omega, en_length, hidx]
    refine Ev.ifp (by omega) (Ev.ifp (by omega) (Ev.ifp (by rw [en_length]; omega) ?_))
    rw [rd_en']
    refine Ev.bind (mul_ev _ _) (Ev.ifp (by omega) (Ev.ifp (by rw [en_length]; omega) ?_))
    rw [← hc, Int.toNat_natCast, en_set]
    refine divide_inner B (q.set k c) v hB B.length 0 k c r _ (by omega) (Nat.zero_le _) (by omega) (by omega) (fun r' hl' hc' => ?_)
    rw [same_coefs (r := r') (r1 := r1) (by omega) (fun m => by rw [hc', hr1c])]
    exact hev

/-- Division: the quotient and the remainder, trimmed. -/
theorem divide_ev (a b : List G) (ha : a.length ≤ 100000000) (hb : b.length ≤ 100000000) (hz : sz b ≠ 0) :
    ∃ q r : List G, Ev (fun k => poly_divide.f k (en a) (en b)) (en (trim q), en (trim r)) ∧ Eqv a (add (mul q b) r) ∧ sz r < sz b ∧ sz q ≤ sz a ∧ sz r ≤ sz a := by
  obtain ⟨A, hA⟩ : ∃ A, A = trim a := ⟨_, rfl⟩
  obtain ⟨B, hB⟩ : ∃ B, B = trim b := ⟨_, rfl⟩
  have lA : A.length = sz a := by rw [hA]; rfl
  have lB : B.length = sz b := by rw [hB]; rfl
  have sa := sz_le_length a
  have sb := sz_le_length b
  have htop : coef B (B.length - 1) ≠ 0 := by rw [hB, coef_trim, length_trim]; exact top_ne hz
  have heA : Eqv a A := by rw [hA]; exact (trim_eqv a).symm
  have heB : Eqv B b := by rw [hB]; exact trim_eqv b
  have hta := trim_ev a (by omega)
  have htb := trim_ev b (by omega)
  rw [← hA] at hta
  rw [← hB] at htb
  have hB0 : 0 < B.length := by omega
  have hAl : A.length ≤ 100000000 := by omega
  have hBl : B.length ≤ 100000000 := by omega
  rw [← lA, ← lB]
  clear hA hB lA lB sa sb ha hb hz
  have fin : ∀ q' r' : List G, Eqv A (add (mul q' B) r') → Eqv a (add (mul q' b) r') := fun q' r' h => (heA.trans h).trans (fun m => by rw [coef_add, coef_add, mul_congr_right q' heB m])
  have hi : wrap64 (((en B).length : Int) - 1) = ((B.length - 1 : Nat) : Int) := by rw [en_length, w64 (by omega) (by omega)]; omega
  have hiv := inv_ev htop
  have hvt := inv_mul htop
  clear heA heB
  by_cases hAB : B.length ≤ A.length
  · obtain ⟨q', r', hev, h2, h3, h4, h5⟩ := divide_outer A B (inv (coef B (B.length - 1))) hAl hBl hB0 hvt (A.length - B.length + 1) (List.replicate (A.length - B.length + 1) 0) A (by simp) rfl (by simp) (fun _ => by omega) (fun m _ => coef_zeros _ _) (fun m hm => coef_ge (by omega)) (fun m => by
      rw [coef_add, coef_mul_zeros (fun k => coef_zeros _ k)]; simp)
    refine ⟨q', r', ?_, fin _ _ h2, h3, Nat.le_trans (sz_le_length _) (by rw [h4]; simp; omega), Nat.le_trans (sz_le_length _) (by omega)⟩
    unfold poly_divide.f
    refine Ev.bind hta (Ev.bind htb ?_)
    rw [hi]
    refine Ev.ifp (by omega) (Ev.ifp (by rw [en_length]; omega) ?_)
    rw [rd_en']
    refine Ev.bind hiv (Ev.ifp (by rw [en_length, en_length]; omega) ?_)
    have hn : wrap64 ((wrap64 (((en A).length : Int) - ((en B).length : Int))) + 1) = ((A.length - B.length + 1 : Nat) : Int) := by
      rw [en_length, en_length, w64 (x := (A.length : Int) - (B.length : Int)) (by omega) (by omega), w64 (by omega) (by omega)]; omega
    rw [hn, Int.toNat_natCast, en_zeros]
    refine Ev.ifp (by omega) (Ev.ifp (by omega) ?_)
    refine Ev.succ ?_
    simp only [poly_divide.j0]
    rw [en_length, en_length, w64 (by omega) (by omega), show (A.length : Int) - (B.length : Int) = ((A.length - B.length + 1 : Nat) : Int) - 1 from by omega]
    exact hev
  · refine ⟨[], A, ?_, fin _ _ (fun m => by rw [coef_add]; simp), Nat.lt_of_le_of_lt (sz_le_length _) (by omega), by simp [sz, trim], sz_le_length _⟩
    unfold poly_divide.f
    refine Ev.bind hta (Ev.bind htb ?_)
    rw [hi]
    refine Ev.ifp (by omega) (Ev.ifp (by rw [en_length]; omega) ?_)
    rw [rd_en']
    refine Ev.bind hiv (Ev.ifn (by rw [en_length, en_length]; omega) ?_)
    refine Ev.succ ?_
    simp only [poly_divide.j0]
    rw [en_length, en_length, w64 (by omega) (by omega)]
    refine Ev.succ ?_
    simp only [poly_divide.l0]
    refine Ev.ifn (by omega) ?_
    exact Ev.bind (trim_ev [] (by simp)) (Ev.bind (trim_ev A (by omega)) (Ev.now _))
end Go.Proofs.YtldfcpmapbofgaaDoor.Br
