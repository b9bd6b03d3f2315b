/- The printed division of the specification. -/
import Derived.Test.YtldfcpmapbofgaaDoorBr5
import Derived.Test.YtldfcpmapbofgaaDoorM19
namespace Go.Proofs.YtldfcpmapbofgaaDoor.Br
open Go.RowKit Go.Proofs.YtldfcpmapbofgaaDoorW.PrintWords Go.Proofs.YtldfcpmapbofgaaDoorW.PrintMore Go.Proofs.YtldfcpmapbofgaaDoor.M Go.Proofs.QGf

theorem rdiv_inner (b q : List G) (v : G) (D : Nat) (hD : D < b.length) (hB : b.length ≤ 100000000) : ∀ (d j kk : Nat) (c : G) (r : List G) (R : List Int × List Int × Int), D + 1 - j = d → j ≤ D + 1 → kk + D < r.length → r.length ≤ 100000000 →
      (∀ r' : List G, r'.length = r.length → (∀ m, coef r' m = coef r m + (if kk + j ≤ m ∧ m ≤ kk + D then c * coef b (m - kk) else 0)) → Ev (fun k => quietusref06_DivMod.l0 k (en b) (D : Int) (v.n : Int) (en q) (en r') (wrap64 (((kk + D : Nat) : Int) - 1))) R) →
      Ev (fun k => quietusref06_DivMod.l1 k (en b) (D : Int) (v.n : Int) (en q) (en r) ((kk + D : Nat) : Int) (c.n : Int) (j : Int)) R := by
  intro d
  induction d with
  | zero =>
    intro j kk c r R hd hj hk hr h
    refine Ev.succ ?_
    simp only [quietusref06_DivMod.l1]
    refine Ev.ifn (by omega) ?_
    refine h r rfl (fun m => ?_)
    rw [if_neg (by omega), add_zero]
  | succ d ih =>
    intro j kk c r R hd hj hk hr h
    refine Ev.succ ?_
    simp only [quietusref06_DivMod.l1]
    have hs : wrap64 ((wrap64 (((kk + D : Nat) : Int) - (D : Int))) + (j : Int)) = ((kk + j : Nat) : Int) := by
      rw [w64 (x := ((kk + D : Nat) : Int) - (D : Int)) (by omega) (by omega), w64 (by omega) (by omega)]; omega
    rw [hs]
    refine Ev.ifp (by omega) (Ev.ifp (by omega) (Ev.ifp (by rw [en_length]; omega) (Ev.ifp (by omega) (Ev.ifp (by rw [en_length]; omega) ?_))))
    rw [rd_en', rd_en']
    refine Ev.bind (rmul_ev _ _) ?_
    rw [xor_n, Int.toNat_natCast, en_set, w64 (x := (j : Int) + 1) (by omega) (by omega), show (j : Int) + 1 = ((j + 1 : Nat) : Int) from by omega]
    refine ih (j + 1) kk c _ R (by omega) (by omega) (by simpa using hk) (by simpa using hr) (fun r' hl' hc' => ?_)
    refine h r' (by simpa using hl') (fun m => ?_)
    rw [hc', coef_set _ _ _ _ (by omega)]
    by_cases e : m = kk + j
    · subst e
      rw [if_pos rfl, if_neg (by omega), if_pos (by omega), Nat.add_sub_cancel_left]
      simp
    · rw [if_neg e]
      by_cases hm : kk + j ≤ m ∧ m ≤ kk + D
      · rw [if_pos hm, if_pos (by omega)]
      · rw [if_neg hm, if_neg (by omega)]
theorem rlayout (r b : List G) (c : G) (k D : Nat) (hk : k + D < r.length) : ∃ r1 : List G, r1.length = r.length ∧ ∀ m, coef r1 m = coef r m + (if k + 0 ≤ m ∧ m ≤ k + D then c * coef b (m - k) else 0) := by
  refine ⟨(List.range r.length).map (fun m => coef r m + (if k + 0 ≤ m ∧ m ≤ k + D then c * coef b (m - k) else 0)), by simp, fun m => ?_⟩
  rcases Nat.lt_or_ge m r.length with h | h
  · rw [coef_lt (by simpa using h)]; simp
  · rw [coef_ge (by simpa using h), coef_ge h, if_neg (by omega), add_zero]
theorem rdiv_outer (a b : List G) (v : G) (D : Nat) (hD : D < b.length) (ha : a.length ≤ 100000000) (hb : b.length ≤ 100000000) (hs : sz b = D + 1) (hvt : v * coef b D = 1) : ∀ (k : Nat) (q r : List G), r.length = a.length → q.length = a.length + 1 → k + D ≤ a.length →
      (∀ m, m < k → coef q m = 0) → (∀ m, k + D ≤ m → coef r m = 0) → Eqv a (add (mul q b) r) →
      ∃ q' r' : List G, Ev (fun n => quietusref06_DivMod.l0 n (en b) (D : Int) (v.n : Int) (en q) (en r) (((k + D : Nat) : Int) - 1)) (en (trim q'), en (trim r'), 0) ∧ Eqv a (add (mul q' b) r') ∧ sz r' < sz b := by
  intro k
  induction k with
  | zero =>
    intro q r hr hq _ _ h0 he
    refine ⟨q, r, ?_, he, ?_⟩
    · refine Ev.succ ?_
      simp only [quietusref06_DivMod.l0]
      refine Ev.ifn (by omega) ?_
      exact Ev.bind (rtrim_ev q (by omega)) (Ev.bind (rtrim_ev r (by omega)) (Ev.now _))
    · have : sz r ≤ D := sz_le_of (fun m hm => h0 m (by omega))
      omega
  | succ k ih =>
    intro q r hr hq hka hq0 h0 he
    obtain ⟨c, hc⟩ : ∃ c, c = coef r (k + D) * v := ⟨_, rfl⟩
    have hcz : c * coef b D = coef r (k + D) := by rw [hc, mul_assoc, hvt, mul_one]
    have hbz : ∀ m, D < m → coef b m = 0 := fun m hm => coef_sz (by omega)
    obtain ⟨r1, hr1l, hr1c⟩ := rlayout r b c k D (by omega)
    obtain ⟨q', r'', hev, h2, h3⟩ := ih (q.set k c) r1 (by omega) (by simpa using hq) (by omega) (fun m hm => by
        rw [coef_set _ _ _ _ (by omega), if_neg (by omega)]
        exact hq0 m (by omega)) (fun m hm => by
        rw [hr1c]
        by_cases e : m = k + D
        · rw [if_pos (by omega), e, Nat.add_sub_cancel_left, hcz, add_self]
        · rw [h0 m (by omega), if_neg (by omega), add_zero]) (fun m => by
        rw [he m, coef_add, coef_add, coef_mul_set q k c b m (by omega) (hq0 k (by omega)), hr1c]
        by_cases hm : k ≤ m
        · by_cases hm2 : m ≤ k + D
          · rw [if_pos hm, if_pos (by omega), add_assoc, add_comm (coef r m), add_self_left]
          · rw [if_pos hm, if_neg (by omega), hbz (m - k) (by omega)]; simp
        · rw [if_neg hm, if_neg (by omega)]; simp)
    refine ⟨q', r'', ?_, h2, h3⟩
    have hidx : wrap64 (((k + D : Nat) : Int) - (D : Int)) = (k : Int) := by rw [w64 (by omega) (by omega)]; omega
    refine Ev.succ ?_
    simp only [quietusref06_DivMod.l0]
    rw [show ((k + 1 + D : Nat) : Int) - 1 = ((k + D : Nat) : Int) from by omega, hidx]
    refine Ev.ifp (by omega) (Ev.ifp (by omega) (Ev.ifp (by rw [en_length]; omega) ?_))
    rw [rd_en']
    refine Ev.bind (rmul_ev _ _) (Ev.ifp (by omega) (Ev.ifp (by rw [en_length]; omega) ?_))
    rw [← hc, Int.toNat_natCast, en_set]
    refine rdiv_inner b (q.set k c) v D hD hb (D + 1) 0 k c r _ (by omega) (Nat.zero_le _) (by omega) (by omega) (fun r' hl' hc' => ?_)
    rw [same_coefs (r := r') (r1 := r1) (by omega) (fun m => by rw [hc', hr1c]), w64 (by omega) (by omega)]
    exact hev
theorem rDivMod_zero (p q : List G) (hp : p.length ≤ 256) (hq : q.length ≤ 256) (hz : sz q = 0) : Ev (fun k => quietusref06_DivMod.f k (en p) (en q)) ([], [], 1) := by
  unfold quietusref06_DivMod.f
  refine Ev.ifn (by rw [en_length]; omega) ?_
  rw [en_length, decide_eq_false (by omega)]
  refine Ev.succ ?_
  simp only [quietusref06_DivMod.j0]
  refine Ev.ifn (by simp) (Ev.bind (rdegree_ev q (by omega)) (Ev.ifp (by omega) (Ev.now _)))
theorem rDivMod_ev (p q : List G) (hp : p.length ≤ 256) (hq : q.length ≤ 256) (hz : sz q ≠ 0) :
    ∃ d r : List G, Ev (fun k => quietusref06_DivMod.f k (en p) (en q)) (en (trim d), en (trim r), 0) ∧ Eqv p (add (mul d q) r) ∧ sz r < sz q := by
  have sq := sz_le_length q
  have htop := top_ne hz
  obtain ⟨D, hD⟩ : ∃ D, sz q = D + 1 := ⟨sz q - 1, by omega⟩
  rw [hD, Nat.add_sub_cancel] at htop
  have main : ∃ d r : List G, Ev (fun n => quietusref06_DivMod.l0 n (en q) (D : Int) ((inv (coef q D)).n : Int) (en (List.replicate (p.length + 1) 0)) (en p) ((p.length : Int) - 1)) (en (trim d), en (trim r), 0) ∧ Eqv p (add (mul d q) r) ∧ sz r < sz q := by
    by_cases hl : D ≤ p.length
    · have := rdiv_outer p q (inv (coef q D)) D (by omega) (by omega) (by omega) hD (inv_mul htop) (p.length - D) (List.replicate (p.length + 1) 0) p rfl (by simp) (by omega) (fun m _ => coef_zeros _ _) (fun m hm => coef_ge (by omega)) (fun m => by
        rw [coef_add, coef_mul_zeros (fun k => coef_zeros _ k)]; simp)
      rw [show p.length - D + D = p.length from by omega] at this
      exact this
    · refine ⟨List.replicate (p.length + 1) 0, p, ?_, fun m => by rw [coef_add, coef_mul_zeros (fun k => coef_zeros _ k)]; simp, by have := sz_le_length p; omega⟩
      refine Ev.succ ?_
      simp only [quietusref06_DivMod.l0]
      refine Ev.ifn (by omega) ?_
      exact Ev.bind (rtrim_ev _ (by simp; omega)) (Ev.bind (rtrim_ev p (by omega)) (Ev.now _))
  obtain ⟨d, r, h, h2⟩ := main
  refine ⟨d, r, ?_, h2⟩
  unfold quietusref06_DivMod.f
  refine Ev.ifn (by rw [en_length]; omega) ?_
  rw [en_length, decide_eq_false (by omega)]
  refine Ev.succ ?_
  simp only [quietusref06_DivMod.j0]
  refine Ev.ifn (by simp) (Ev.bind (rdegree_ev q (by omega)) (Ev.ifn (by omega) (Ev.ifp (by omega) (Ev.ifp (by rw [en_length]; omega) ?_))))
  rw [hD, show ((D + 1 : Nat) : Int) - 1 = (D : Int) from by omega, rd_en', en_length, w64 (x := (p.length : Int) + 1) (by omega) (by omega), w64 (x := (p.length : Int) - 1) (by omega) (by omega), show (p.length : Int) + 1 = ((p.length + 1 : Nat) : Int) from by omega, Int.toNat_natCast, en_zeros]
  refine Ev.bind (rinv_ev _) (Ev.ifp (by omega) (Ev.ifp (by omega) ?_))
  simp only [Option.bind_some, List.nil_append]
  exact Ev.ifp (by simp; omega) h
end Go.Proofs.YtldfcpmapbofgaaDoor.Br
