/- Decode returns what the specification returns: what is left of PolyDecodesAsSpecified over lists. -/
import Derived.Test.YtldfcpmapbofgaaDoorBrC
import Derived.Test.YtldfcpmapbofgaaDoorM15
namespace Go.Proofs.YtldfcpmapbofgaaDoor.Pure
open Go.RowKit Go.Proofs.YtldfcpmapbofgaaDoorW.PrintWords Go.Proofs.YtldfcpmapbofgaaDoorW.PrintMore Go.Proofs.YtldfcpmapbofgaaDoor.M Go.Proofs.QGf Go.Proofs.YtldfcpmapbofgaaDoor.Br

theorem das_same (M : List Int) (h : M.length ≤ 1000000000) : Ev (fun k => quietusref06_Same.f k M M) true := by
  have h1 := same_ev M M h
  rwa [decide_eq_true (rfl : M = M)] at h1
theorem das_sameI (M : List Int) (h : M.length ≤ 1000000000) : Ev (fun k => quietusref06_SameInts.f k M M) true := by
  have h1 := sameInts_ev M M h
  rwa [decide_eq_true (rfl : M = M)] at h1
theorem das_sane : Ev (fun _ : Nat => quietuslaw06_sanity.f) true := Ev.const rfl
theorem das_end (xs ys : List G) (d w : Int) (r : List Int × List Int × Int) (l1 : r.1.length ≤ 1000) (l2 : r.2.1.length ≤ 1000)
    (h1 : Ev (fun k => poly_Decode.f k (en xs) (en ys) d w) r) (h2 : Ev (fun k => quietusref06_Decode.f k (en xs) (en ys) d w) r) :
    Ev (fun k => quietuslaw06_PolyDecodesAsSpecified.j0 k (en xs) (en ys) d w false) true := by
  refine Ev.succ ?_
  simp only [quietuslaw06_PolyDecodesAsSpecified.j0]
  exact Ev.ifn (by simp) (Ev.bind h1 (Ev.bind h2 (Ev.bind das_sane (Ev.ifp rfl (Ev.ifp rfl (Ev.bind (das_same r.1 (by omega)) (Ev.ifp rfl (Ev.bind (das_sameI r.2.1 (by omega)) (Ev.now _)))))))))
theorem das_wf {a : Int} (h : (Lit.int .i64 a).wf = true) : -9223372036854775808 ≤ a ∧ a ≤ 9223372036854775807 := by
  simp [Lit.wf, show IntKind.i64.min = -9223372036854775808 from by decide, show IntKind.i64.max = 9223372036854775807 from by decide] at h
  omega
theorem PolyDecodesAsSpecified : quietuslaw06_PolyDecodesAsSpecified.Pure := by
  intro l0 l1 d w hm0 _ h0 _ _ h1 hd hw
  obtain ⟨xs, rfl⟩ := de h0
  obtain ⟨ys, rfl⟩ := de h1
  rw [en_length] at hm0
  have bd := das_wf hd
  have bw := das_wf hw
  refine Ev.rounds ?_
  have long : Ev (fun k => quietuslaw06_PolyDecodesAsSpecified.j0 k (en xs) (en ys) d w true) true := by
    refine Ev.succ ?_
    simp only [quietuslaw06_PolyDecodesAsSpecified.j0]
    exact Ev.ifp (by trivial) (Ev.bind das_sane (Ev.now _))
  unfold quietuslaw06_PolyDecodesAsSpecified.f
  by_cases hx : xs.length ≤ 9
  · refine Ev.ifn (by rw [en_length]; omega) ?_
    by_cases hy : ys.length ≤ 9
    · rw [en_length, decide_eq_false (by omega)]
      by_cases hr : xs.Nodup ∧ xs.length = ys.length
      · by_cases hg : d < 0 ∨ w < 0 ∨ (xs.length : Int) ≤ d ∨ (xs.length : Int) - d - 1 < 2 * w
        · exact das_end xs ys d w ([], [], 3) (by simp) (by simp) (Decode_range xs ys d w hr (by omega) hg) (rDecode_range xs ys d w hr (by omega) hg)
        · obtain ⟨D, rfl⟩ : ∃ D : Nat, d = (D : Int) := ⟨d.toNat, by omega⟩
          obtain ⟨W, rfl⟩ : ∃ W : Nat, w = (W : Int) := ⟨w.toNat, by omega⟩
          have hD := Decode_ev xs ys hr.1 D W (by omega) hr.2 (by omega)
          have hS := rDecode_ev xs ys hr.1 D W (by omega) hr.2 (by omega) _ hD
          rcases hD with ⟨p, h1, tp, lp, mp, hu⟩ | ⟨h1, hu⟩
          · exact das_end xs ys D W _ (by show (en p).length ≤ 1000; rw [en_length]; omega) (by show (missedI p xs ys xs.length).length ≤ 1000; have := missedN_le p xs ys xs.length; rw [missedI_length]; omega) h1 (hS _ h1)
          · exact das_end xs ys D W _ (by simp) (by simp) h1 (hS _ h1)
      · exact das_end xs ys d w ([], [], 1) (by simp) (by simp) (Decode_not xs ys d w hr) (rDecode_not xs ys d w hm0 hr)
    · rw [en_length, decide_eq_true (by omega)]
      exact long
  · exact Ev.ifp (by rw [en_length]; omega) long
end Go.Proofs.YtldfcpmapbofgaaDoor.Pure
