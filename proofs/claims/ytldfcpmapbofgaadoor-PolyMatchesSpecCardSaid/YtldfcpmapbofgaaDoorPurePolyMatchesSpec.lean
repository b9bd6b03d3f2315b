/- The polynomial functions answer as specified: what is left of PolyMatchesSpec over lists. -/
import Derived.Test.YtldfcpmapbofgaaDoorBr6
import Derived.Test.YtldfcpmapbofgaaDoorM20
namespace Go.Proofs.YtldfcpmapbofgaaDoor.Pure
open Go.RowKit Go.Proofs.YtldfcpmapbofgaaDoorW.PrintWords Go.Proofs.YtldfcpmapbofgaaDoorW.PrintMore Go.Proofs.YtldfcpmapbofgaaDoor.M Go.Proofs.QGf Go.Proofs.YtldfcpmapbofgaaDoor.Br

theorem same_self (M : List Int) (h : M.length ≤ 1000000000) : Ev (fun k => quietusref06_Same.f k M M) true := by
  have h1 := same_ev M M h
  rwa [decide_eq_true (rfl : M = M)] at h1
theorem match3 (p q : List G) (hp : p.length ≤ 60) (hq : q.length ≤ 60) : Ev (fun k => quietuslaw06_PolyMatchesSpec.j3 k (en p) (en q) false false) true := by
  refine Ev.succ ?_
  simp only [quietuslaw06_PolyMatchesSpec.j3]
  refine Ev.ifn (by simp) (Ev.bind (Mul_ev p q (by omega) (by omega)) ?_)
  have sp := sz_le_length p
  have hm : sz (mul p q) ≤ 1000 := by
    have := length_mul_le p q
    have h2 := sz_le_length (mul p q)
    omega
  by_cases hz : sz q = 0
  · refine Ev.bind (DivMod_zero p q (by omega) (by omega) hz) (Ev.ifn (by simp) (Ev.bind (rDivMod_zero p q (by omega) (by omega) hz) ?_))
    refine Ev.bind (Ev.const (o := quietuslaw06_sanity.f) rfl) (Ev.ifp rfl (Ev.ifp rfl ?_))
    refine Ev.bind (rproduct_ev p q (by omega) (by omega)) (Ev.bind (same_self _ (by rw [en_length, length_trim]; omega)) (Ev.ifp rfl (Ev.ifp rfl ?_)))
    exact Ev.bind (same_self [] (by simp)) (Ev.ifp rfl (Ev.bind (same_self [] (by simp)) (Ev.now _)))
  · obtain ⟨d, r, h, he, hr, hd, hrp⟩ := DivMod_ev p q (by omega) (by omega) hz
    obtain ⟨d', r', h', he', hr'⟩ := rDivMod_ev p q (by omega) (by omega) hz
    have u := div_unique hz hr hr' (he.symm.trans he')
    rw [← u.1, ← u.2] at h'
    refine Ev.bind h (Ev.ifn (by simp) (Ev.bind h' ?_))
    refine Ev.bind (Ev.const (o := quietuslaw06_sanity.f) rfl) (Ev.ifp rfl (Ev.ifp rfl ?_))
    refine Ev.bind (rproduct_ev p q (by omega) (by omega)) (Ev.bind (same_self _ (by rw [en_length, length_trim]; omega)) (Ev.ifp rfl (Ev.ifp rfl ?_)))
    exact Ev.bind (same_self _ (by rw [en_length, length_trim]; omega)) (Ev.ifp rfl (Ev.bind (same_self _ (by rw [en_length, length_trim]; omega)) (Ev.now _)))
theorem match3b (p q : List G) (h : 256 < p.length ∨ 256 < q.length) : Ev (fun k => quietuslaw06_PolyMatchesSpec.j3 k (en p) (en q) true false) true := by
  refine Ev.succ ?_
  simp only [quietuslaw06_PolyMatchesSpec.j3]
  refine Ev.ifn (by simp) (Ev.bind (Mul_long p q h) (Ev.bind (DivMod_long p q h) (Ev.ifp (by trivial) ?_)))
  refine Ev.const ?_
  simp [quietuslaw06_sanity.f, show wrap64 0 = 0 from w64 (by decide) (by decide)]
theorem match3c (p q : List G) (b : Bool) : Ev (fun k => quietuslaw06_PolyMatchesSpec.j3 k (en p) (en q) b true) true := by
  refine Ev.succ ?_
  simp only [quietuslaw06_PolyMatchesSpec.j3]
  refine Ev.ifp (by trivial) ?_
  exact Ev.const rfl
theorem match1 (p q : List G) : Ev (fun k => quietuslaw06_PolyMatchesSpec.j1 k (en p) (en q) false) true := by
  have two : ∀ b : Bool, b = decide (256 < p.length ∨ 256 < q.length) → Ev (fun k => quietuslaw06_PolyMatchesSpec.j2 k (en p) (en q) b) true := by
    intro b hb
    refine Ev.succ ?_
    simp only [quietuslaw06_PolyMatchesSpec.j2]
    by_cases h : 256 < p.length ∨ 256 < q.length
    · rw [decide_eq_true h] at hb
      subst hb
      exact Ev.ifp (by trivial) (match3b p q h)
    · rw [decide_eq_false h] at hb
      subst hb
      refine Ev.ifn (by simp) ?_
      by_cases h1 : 60 < p.length
      · exact Ev.ifp (by rw [en_length]; omega) (match3c p q _)
      · refine Ev.ifn (by rw [en_length]; omega) ?_
        by_cases h2 : 60 < q.length
        · rw [en_length, decide_eq_true (by omega)]
          exact match3c p q _
        · rw [en_length, decide_eq_false (by omega)]
          exact match3 p q (by omega) (by omega)
  refine Ev.succ ?_
  simp only [quietuslaw06_PolyMatchesSpec.j1]
  refine Ev.ifn (by simp) ?_
  by_cases h1 : 256 < p.length
  · exact Ev.ifp (by rw [en_length]; omega) (two _ (decide_eq_true (.inl h1)).symm)
  · refine Ev.ifn (by rw [en_length]; omega) (two _ ?_)
    rw [en_length, decide_eq_decide]
    omega
theorem PolyMatchesSpec : quietuslaw06_PolyMatchesSpec.Pure := by
  intro l0 l1 a2 _ _ h0 _ _ h1 h2
  obtain ⟨p, rfl⟩ := de h0
  obtain ⟨q, rfl⟩ := de h1
  obtain ⟨x, rfl⟩ := de1 h2
  refine Ev.rounds ?_
  have long : Ev (fun k => quietuslaw06_PolyMatchesSpec.j0 k (en p) (en q) (x.n : Int) true) true := by
    refine Ev.succ ?_
    simp only [quietuslaw06_PolyMatchesSpec.j0]
    refine Ev.ifp (by trivial) ?_
    exact Ev.const rfl
  unfold quietuslaw06_PolyMatchesSpec.f
  by_cases hp : p.length ≤ 300
  · refine Ev.ifn (by rw [en_length]; omega) ?_
    by_cases hq : q.length ≤ 300
    · rw [en_length, decide_eq_false (by omega)]
      have sp := sz_le_length p
      have ha : (trim (add p q)).length ≤ 1000 := by
        have := length_add p q
        have h2 := sz_le_length (add p q)
        rw [length_trim]
        omega
      refine Ev.succ ?_
      simp only [quietuslaw06_PolyMatchesSpec.j0]
      refine Ev.ifn (by simp) (Ev.bind (eval_ev p x (by omega)) (Ev.bind (reval_ev p x (by omega)) (Ev.ifp rfl ?_)))
      refine Ev.bind (degree_ev p (by omega)) (Ev.bind (rdegree_ev p (by omega)) (Ev.ifp rfl ?_))
      refine Ev.bind (trim_ev p (by omega)) (Ev.bind (rtrim_ev p (by omega)) (Ev.bind (same_ev _ _ (by rw [en_length, length_trim]; omega)) (Ev.ifp (by simp) ?_)))
      refine Ev.bind (Add_ev p q (by omega) (by omega)) (Ev.bind (radd_ev p q (by omega) (by omega)) (Ev.bind (same_ev _ _ (by rw [en_length]; omega)) ?_))
      simp only [decide_true, Bool.not_true]
      exact match1 p q
    · rw [en_length, decide_eq_true (by omega)]
      exact long
  · exact Ev.ifp (by rw [en_length]; omega) long
end Go.Proofs.YtldfcpmapbofgaaDoor.Pure
