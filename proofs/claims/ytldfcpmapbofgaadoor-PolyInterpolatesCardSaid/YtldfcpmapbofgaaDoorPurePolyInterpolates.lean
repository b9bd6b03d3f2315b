/- Interpolation finds the polynomial again: what is left of PolyInterpolates over lists. -/
import Derived.Test.YtldfcpmapbofgaaDoorBr8
import Derived.Test.YtldfcpmapbofgaaDoorM16
namespace Go.Proofs.YtldfcpmapbofgaaDoor.Pure
open Go.RowKit Go.Proofs.YtldfcpmapbofgaaDoorW.PrintWords Go.Proofs.YtldfcpmapbofgaaDoorW.PrintMore Go.Proofs.YtldfcpmapbofgaaDoor.M Go.Proofs.QGf Go.Proofs.YtldfcpmapbofgaaDoor.Br

theorem same_yes (M : List Int) (h : M.length ≤ 1000000000) : Ev (fun k => quietusref06_Same.f k M M) true := by
  have h1 := same_ev M M h
  rwa [decide_eq_true (rfl : M = M)] at h1
theorem sane : Ev (fun _ : Nat => quietuslaw06_sanity.f) true := Ev.const rfl
theorem inter2 (xs p : List G) (hn : xs.Nodup) (hx : xs.length ≤ 40) : ∀ b : Bool, (b = false → p.length ≤ xs.length ∧ p.length ≠ 0) → Ev (fun k => quietuslaw06_PolyInterpolates.j2 k (en xs) (en p) b) true := by
  intro b hb
  refine Ev.succ ?_
  simp only [quietuslaw06_PolyInterpolates.j2]
  cases b with
  | true => exact Ev.ifp rfl (Ev.bind sane (Ev.now _))
  | false =>
    obtain ⟨hl, h0⟩ := hb rfl
    have hv := values_ev p xs (by omega) (by omega)
    have sp := sz_le_length p
    obtain ⟨P, hP, tP, lP, fP⟩ := Interpolate_ev xs (valuesP p xs) hn (by omega) (by simp)
    obtain ⟨Q, hQ, tQ, lQ, fQ⟩ := Through_ev xs (valuesP p xs) (p.length - 1) hn (by omega) (by simp) (by omega)
    have eP := fit_unique hn (Nat.le_trans (sz_le_length P) lP) (Nat.le_trans sp hl) fP (fit_valuesP p xs)
    have eQ := fit_unique hn (Nat.le_trans (sz_le_length Q) lQ) (Nat.le_trans sp hl) fQ (fit_valuesP p xs)
    rw [tP] at eP
    rw [tQ] at eQ
    subst eP
    subst eQ
    rw [if_neg (by rw [length_trim]; omega)] at hQ
    have ht := trim_ev p (by omega)
    have hs := same_yes (en (trim p)) (by rw [en_length, length_trim]; omega)
    have hw : wrap64 (((en p).length : Int) - 1) = ((p.length - 1 : Nat) : Int) := by rw [en_length, w64 (by omega) (by omega)]; omega
    rw [hw]
    refine Ev.ifn (by simp) (Ev.bind hv (Ev.bind hP (Ev.bind hv (Ev.bind hQ (Ev.bind sane (Ev.ifp rfl (Ev.ifp rfl (Ev.ifp rfl ?_))))))))
    exact Ev.bind ht (Ev.bind hs (Ev.ifp rfl (Ev.bind ht (Ev.bind hs (Ev.now _)))))
theorem inter1 (xs p : List G) (hn : xs.Nodup) (hx : xs.length ≤ 40) : Ev (fun k => quietuslaw06_PolyInterpolates.j1 k (en xs) (en p) false) true := by
  refine Ev.succ ?_
  simp only [quietuslaw06_PolyInterpolates.j1]
  refine Ev.ifn (by simp) ?_
  by_cases h : xs.length < p.length
  · exact Ev.ifp (by rw [en_length, en_length]; omega) (inter2 xs p hn hx _ (fun h => by simp at h))
  · refine Ev.ifn (by rw [en_length, en_length]; omega) (inter2 xs p hn hx _ (fun h => ?_))
    rw [en_length] at h
    have := beq_eq_false_iff_ne.1 h
    omega
theorem PolyInterpolates : quietuslaw06_PolyInterpolates.Pure := by
  intro l0 l1 l2 hm0 _ h0 _ _ h1 _ _ h2
  obtain ⟨xs, rfl⟩ := de h0
  obtain ⟨ys, rfl⟩ := de h1
  obtain ⟨p, rfl⟩ := de h2
  refine Ev.rounds ?_
  have long : Ev (fun k => quietuslaw06_PolyInterpolates.j0 k (en xs) (en ys) (en p) true) true := by
    refine Ev.succ ?_
    simp only [quietuslaw06_PolyInterpolates.j0]
    exact Ev.ifp (by trivial) (Ev.bind sane (Ev.now _))
  unfold quietuslaw06_PolyInterpolates.f
  refine Ev.bind (rright_ev xs ys (by rw [en_length] at hm0; exact hm0)) ?_
  by_cases hx : xs.length ≤ 40
  · refine Ev.ifn (by rw [en_length]; omega) ?_
    by_cases hr : xs.Nodup ∧ xs.length = ys.length
    · rw [decide_eq_true hr, Bool.not_true]
      obtain ⟨P, hP, tP, lP, fP⟩ := Interpolate_ev xs ys hr.1 (by omega) hr.2
      refine Ev.succ ?_
      simp only [quietuslaw06_PolyInterpolates.j0]
      refine Ev.ifn (by simp) (Ev.bind hP (Ev.ifp rfl (Ev.ifn (by rw [en_length, en_length]; omega) (Ev.bind (values_ev P xs (by omega) (by omega)) ?_))))
      rw [values_fit hr.2 fP]
      refine Ev.bind (same_yes (en ys) (by rw [en_length]; omega)) ?_
      exact inter1 xs p hr.1 hx
    · rw [decide_eq_false hr, Bool.not_false]
      exact long
  · exact Ev.ifp (by rw [en_length]; omega) long
end Go.Proofs.YtldfcpmapbofgaaDoor.Pure
