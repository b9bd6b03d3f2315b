/- Interpolation returns what the specification returns: what is left of PolyInterpolatesAsSpecified over lists. -/
import Derived.Test.YtldfcpmapbofgaaDoorBrB
import Derived.Test.YtldfcpmapbofgaaDoorM14
namespace Go.Proofs.YtldfcpmapbofgaaDoor.Pure
open Go.RowKit Go.Proofs.YtldfcpmapbofgaaDoorW.PrintWords Go.Proofs.YtldfcpmapbofgaaDoorW.PrintMore Go.Proofs.YtldfcpmapbofgaaDoor.M Go.Proofs.QGf Go.Proofs.YtldfcpmapbofgaaDoor.Br

theorem ias_same (M : List Int) (h : M.length ≤ 1000000000) : Ev (fun k => quietusref06_Same.f k M M) true := by
  have h1 := same_ev M M h
  rwa [decide_eq_true (rfl : M = M)] at h1
theorem ias_sane : Ev (fun _ : Nat => quietuslaw06_sanity.f) true := Ev.const rfl
theorem ias_end (xs ys : List G) (d : Int) (hx : xs.length ≤ 24) (r1 r2 : List Int × Int) (l1 : r1.1.length ≤ 1000) (l2 : r2.1.length ≤ 1000)
    (h1 : Ev (fun k => poly_Interpolate.f k (en xs) (en ys)) r1) (h2 : Ev (fun k => quietusref06_Interpolate.f k (en xs) (en ys)) r1)
    (h3 : Ev (fun k => poly_Through.f k (en xs) (en ys) d) r2) (h4 : Ev (fun k => quietusref06_Through.f k (en xs) (en ys) d) r2) :
    Ev (fun k => quietuslaw06_PolyInterpolatesAsSpecified.j0 k (en xs) (en ys) d false) true := by
  refine Ev.succ ?_
  simp only [quietuslaw06_PolyInterpolatesAsSpecified.j0]
  refine Ev.ifn (by simp) (Ev.bind h1 (Ev.bind h2 (Ev.bind h3 (Ev.bind h4 (Ev.bind ias_sane (Ev.ifp rfl (Ev.ifp rfl (Ev.bind (ias_same r1.1 (by omega)) (Ev.ifp rfl (Ev.ifp rfl (Ev.bind (ias_same r2.1 (by omega)) (Ev.now _))))))))))))
theorem PolyInterpolatesAsSpecified : quietuslaw06_PolyInterpolatesAsSpecified.Pure := by
  intro l0 l1 d hm0 _ h0 _ _ h1 _
  obtain ⟨xs, rfl⟩ := de h0
  obtain ⟨ys, rfl⟩ := de h1
  rw [en_length] at hm0
  refine Ev.rounds ?_
  have long : Ev (fun k => quietuslaw06_PolyInterpolatesAsSpecified.j0 k (en xs) (en ys) d true) true := by
    refine Ev.succ ?_
    simp only [quietuslaw06_PolyInterpolatesAsSpecified.j0]
    exact Ev.ifp (by trivial) (Ev.bind ias_sane (Ev.now _))
  unfold quietuslaw06_PolyInterpolatesAsSpecified.f
  by_cases hx : xs.length ≤ 24
  · refine Ev.ifn (by rw [en_length]; omega) ?_
    by_cases hy : ys.length ≤ 24
    · rw [en_length, decide_eq_false (by omega)]
      by_cases hr : xs.Nodup ∧ xs.length = ys.length
      · obtain ⟨P, hP, tP, lP, fP⟩ := Interpolate_ev xs ys hr.1 (by omega) hr.2
        obtain ⟨Q, hQ, tQ, lQ, fQ⟩ := rInterpolate_ev xs ys hr.1 (by omega) hr.2
        have e := fit_unique hr.1 (Nat.le_trans (sz_le_length P) lP) (Nat.le_trans (sz_le_length Q) lQ) fP fQ
        rw [tP, tQ] at e
        subst e
        by_cases hd : d < 0 ∨ (xs.length : Int) ≤ d
        · exact ias_end xs ys d hx (en P, 0) ([], 3) (by rw [en_length]; omega) (by simp) hP hQ (Through_range xs ys d hr hd) (rThrough_range xs ys d hr (by omega) hd)
        · obtain ⟨D, rfl⟩ : ∃ D : Nat, d = (D : Int) := ⟨d.toNat, by omega⟩
          obtain ⟨T, hT, tT, lT, fT⟩ := Through_ev xs ys D hr.1 (by omega) hr.2 (by omega)
          have hT2 := rThrough_ev xs ys T D hr.1 (by omega) hr.2 (by omega) tT lT fT
          refine ias_end xs ys D hx (en P, 0) _ (by rw [en_length]; omega) ?_ hP hQ hT hT2
          split
          · simp
          · rw [en_length]; omega
      · exact ias_end xs ys d hx ([], 1) ([], 1) (by simp) (by simp) (Interpolate_not xs ys hr) (rInterpolate_not xs ys hm0 hr) (Through_not xs ys d hr) (rThrough_not xs ys d hm0 hr)
    · rw [en_length, decide_eq_true (by omega)]
      exact long
  · exact Ev.ifp (by rw [en_length]; omega) long
end Go.Proofs.YtldfcpmapbofgaaDoor.Pure
