/- The printed Mul, Add and DivMod. -/
import Derived.Test.YtldfcpmapbofgaaDoorBr3
import Derived.Test.YtldfcpmapbofgaaDoorM5
import Derived.Test.YtldfcpmapbofgaaDoorM12
namespace Go.Proofs.YtldfcpmapbofgaaDoor.Br
open Go.RowKit Go.Proofs.YtldfcpmapbofgaaDoorW.PrintWords Go.Proofs.YtldfcpmapbofgaaDoorW.PrintMore Go.Proofs.YtldfcpmapbofgaaDoor.M Go.Proofs.QGf

theorem Mul_ev (p q : List G) (hp : p.length ≤ 256) (hq : q.length ≤ 256) : Ev (fun k => poly_Mul.f k (en p) (en q)) (en (trim (mul p q)), 0) := by
  unfold poly_Mul.f
  refine Ev.ifn (by rw [en_length]; omega) (Ev.ifn (by rw [en_length]; omega) ?_)
  exact Ev.bind (product_ev p q (by omega) (by omega)) (Ev.now _)
theorem Mul_long (p q : List G) (h : 256 < p.length ∨ 256 < q.length) : Ev (fun k => poly_Mul.f k (en p) (en q)) ([], 2) := by
  unfold poly_Mul.f
  by_cases hp : 256 < p.length
  · exact Ev.ifp (by rw [en_length]; omega) (Ev.now _)
  · exact Ev.ifn (by rw [en_length]; omega) (Ev.ifp (by rw [en_length]; omega) (Ev.now _))
theorem Add_ev (p q : List G) (hp : p.length ≤ 100000000) (hq : q.length ≤ 100000000) : Ev (fun k => poly_Add.f k (en p) (en q)) (en (trim (add p q))) := by
  unfold poly_Add.f
  exact Ev.bind (sum_ev p q hp hq) (Ev.now _)
theorem DivMod_zero (p q : List G) (hp : p.length ≤ 256) (hq : q.length ≤ 256) (hz : sz q = 0) : Ev (fun k => poly_DivMod.f k (en p) (en q)) ([], [], 1) := by
  unfold poly_DivMod.f
  refine Ev.ifn (by rw [en_length]; omega) ?_
  rw [en_length, decide_eq_false (by omega)]
  refine Ev.succ ?_
  simp only [poly_DivMod.j0]
  refine Ev.ifn (by simp) (Ev.bind (degree_ev q (by omega)) (Ev.ifp (by omega) (Ev.now _)))
theorem DivMod_long (p q : List G) (h : 256 < p.length ∨ 256 < q.length) : Ev (fun k => poly_DivMod.f k (en p) (en q)) ([], [], 2) := by
  unfold poly_DivMod.f
  by_cases hp : 256 < p.length
  · refine Ev.ifp (by rw [en_length]; omega) (Ev.succ ?_)
    simp only [poly_DivMod.j0]
    exact Ev.ifp (by trivial) (Ev.now _)
  · refine Ev.ifn (by rw [en_length]; omega) ?_
    rw [en_length, decide_eq_true (by omega)]
    refine Ev.succ ?_
    simp only [poly_DivMod.j0]
    exact Ev.ifp (by trivial) (Ev.now _)
theorem DivMod_ev (p q : List G) (hp : p.length ≤ 256) (hq : q.length ≤ 256) (hz : sz q ≠ 0) :
    ∃ d r : List G, Ev (fun k => poly_DivMod.f k (en p) (en q)) (en (trim d), en (trim r), 0) ∧ Eqv p (add (mul d q) r) ∧ sz r < sz q ∧ sz d ≤ sz p ∧ sz r ≤ sz p := by
  obtain ⟨d, r, h, h2⟩ := divide_ev p q (by omega) (by omega) hz
  refine ⟨d, r, ?_, h2⟩
  unfold poly_DivMod.f
  refine Ev.ifn (by rw [en_length]; omega) ?_
  rw [en_length, decide_eq_false (by omega)]
  refine Ev.succ ?_
  simp only [poly_DivMod.j0]
  refine Ev.ifn (by simp) (Ev.bind (degree_ev q (by omega)) (Ev.ifn (by omega) (Ev.bind h (Ev.now _))))
end Go.Proofs.YtldfcpmapbofgaaDoor.Br
