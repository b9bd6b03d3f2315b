/- The polynomials of the program are a ring: what is left of PolyIsARing over lists. -/
import Derived.Test.YtldfcpmapbofgaaDoorBr4
import Derived.Test.YtldfcpmapbofgaaDoorM21
namespace Go.Proofs.YtldfcpmapbofgaaDoor.Pure
open Go.RowKit Go.Proofs.YtldfcpmapbofgaaDoorW.PrintWords Go.Proofs.YtldfcpmapbofgaaDoorW.PrintMore Go.Proofs.YtldfcpmapbofgaaDoor.M Go.Proofs.QGf Go.Proofs.YtldfcpmapbofgaaDoor.Br

theorem ring2 (p q : List G) (hp : p.length ≤ 40) (hq : q.length ≤ 40) : Ev (fun k => quietuslaw06_PolyIsARing.j2 k (en p) (en q) ((sz q : Int) - 1) false) true := by
  refine Ev.succ ?_
  simp only [quietuslaw06_PolyIsARing.j2]
  refine Ev.ifn (by simp) ?_
  by_cases hz : sz q = 0
  · refine Ev.bind (DivMod_zero p q (by omega) (by omega) hz) (Ev.ifp (by omega) ?_)
    exact Ev.const rfl
  · obtain ⟨d, r, h, he, hr, hd, hrp⟩ := DivMod_ev p q (by omega) (by omega) hz
    have sp := sz_le_length p
    refine Ev.bind h (Ev.ifn (by omega) ?_)
    refine Ev.bind (Mul_ev (trim d) q (by rw [length_trim]; omega) (by omega)) ?_
    simp only [quietuslaw06_sanity.f, Option.bind_some, if_true]
    have l1 : (trim (mul (trim d) q)).length ≤ 100 := by
      have := length_mul_le (trim d) q
      have h2 := sz_le_length (mul (trim d) q)
      rw [length_trim] at *
      omega
    refine Ev.bind (Add_ev _ (trim r) (by omega) (by rw [length_trim]; omega)) (Ev.bind (trim_ev p (by omega)) ?_)
    have e : trim (add (trim (mul (trim d) q)) (trim r)) = trim p := trim_congr fun m => by
      rw [coef_add, coef_trim, coef_trim, mul_congr_left (trim_eqv d) q m, he m, coef_add]
    rw [e]
    refine Ev.bind (same_ev _ _ (by rw [en_length, length_trim]; omega)) ?_
    rw [decide_eq_true (rfl : en (trim p) = en (trim p))]
    refine Ev.ifp rfl (Ev.bind (degree_ev (trim r) (by rw [length_trim]; omega)) ?_)
    rw [sz_trim, decide_eq_true (by omega)]
    exact Ev.now _
theorem ring1 (p q : List G) (hp : p.length ≤ 40) (hq : q.length ≤ 40) : Ev (fun k => quietuslaw06_PolyIsARing.j1 k (en p) (en q) (en (trim (mul p q))) false) true := by
  have sp := sz_le_length p
  have sq := sz_le_length q
  have hm : (trim (mul p q)).length ≤ 1000000000 := by
    have := length_mul_le p q
    have h2 := sz_le_length (mul p q)
    rw [length_trim]
    omega
  have hdm := degree_ev (trim (mul p q)) hm
  rw [sz_trim] at hdm
  refine Ev.succ ?_
  simp only [quietuslaw06_PolyIsARing.j1]
  refine Ev.ifn (by simp) (Ev.bind (degree_ev p (by omega)) (Ev.bind (degree_ev q (by omega)) ?_))
  by_cases h0 : sz p = 0
  · have hz := sz_mul_zero_left h0 q
    refine Ev.ifn (by omega) (Ev.ifp (by omega) (Ev.bind hdm ?_))
    rw [hz]
    exact ring2 p q hp hq
  · by_cases h1 : sz q = 0
    · have hz := sz_mul_zero_right p h1
      refine Ev.ifp (by omega) (Ev.ifn (by omega) (Ev.ifn (by omega) (Ev.ifp (by omega) (Ev.bind hdm ?_))))
      rw [hz]
      exact ring2 p q hp hq
    · have hs := sz_mul h0 h1
      refine Ev.ifp (by omega) (Ev.ifp (by omega) (Ev.bind hdm (Ev.ifp ?_ (Ev.ifn (by omega) (Ev.ifn (by omega) ?_)))))
      · rw [w64 (by omega) (by omega)]; omega
      · exact ring2 p q hp hq
theorem PolyIsARing : quietuslaw06_PolyIsARing.Pure := by
  intro l0 l1 a2 _ _ h0 _ _ h1 h2
  obtain ⟨p, rfl⟩ := de h0
  obtain ⟨q, rfl⟩ := de h1
  obtain ⟨x, rfl⟩ := de1 h2
  refine Ev.rounds ?_
  have long : Ev (fun k => quietuslaw06_PolyIsARing.j0 k (en p) (en q) (x.n : Int) true) true := by
    refine Ev.succ ?_
    simp only [quietuslaw06_PolyIsARing.j0]
    refine Ev.ifp (by trivial) ?_
    exact Ev.const rfl
  unfold quietuslaw06_PolyIsARing.f
  by_cases hp : p.length ≤ 40
  · refine Ev.ifn (by rw [en_length]; omega) ?_
    by_cases hq : q.length ≤ 40
    · rw [en_length, decide_eq_false (by omega)]
      have hm : (trim (mul p q)).length ≤ 1000000000 := by
        have := length_mul_le p q
        have h2 := sz_le_length (mul p q)
        rw [length_trim]
        omega
      have ha : (trim (add p q)).length ≤ 1000000000 := by
        have := length_add p q
        have h2 := sz_le_length (add p q)
        rw [length_trim]
        omega
      refine Ev.succ ?_
      simp only [quietuslaw06_PolyIsARing.j0]
      refine Ev.ifn (by simp) (Ev.bind (Mul_ev p q (by omega) (by omega)) (Ev.bind (eval_ev p x (by omega)) (Ev.bind (eval_ev q x (by omega)) (Ev.ifp rfl ?_))))
      refine Ev.bind (Add_ev p q (by omega) (by omega)) (Ev.bind (eval_ev _ x ha) (Ev.ifp ?_ ?_))
      · rw [eval_trim, eval_add, xor_n]
      · refine Ev.bind (eval_ev _ x hm) (Ev.bind (mul_ev _ _) ?_)
        rw [eval_trim, eval_mul, bne_self_eq_false]
        exact ring1 p q hp hq
    · rw [en_length, decide_eq_true (by omega)]
      exact long
  · exact Ev.ifp (by rw [en_length]; omega) long
end Go.Proofs.YtldfcpmapbofgaaDoor.Pure
