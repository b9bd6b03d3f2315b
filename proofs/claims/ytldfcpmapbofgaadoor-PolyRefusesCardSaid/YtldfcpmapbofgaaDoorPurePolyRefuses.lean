/- Decode refuses what it cannot correct: what is left of PolyRefuses over lists. -/
import Derived.Test.YtldfcpmapbofgaaDoorBrA
import Derived.Test.YtldfcpmapbofgaaDoorM18
namespace Go.Proofs.YtldfcpmapbofgaaDoor.Pure
open Go.RowKit Go.Proofs.YtldfcpmapbofgaaDoorW.PrintWords Go.Proofs.YtldfcpmapbofgaaDoorW.PrintMore Go.Proofs.YtldfcpmapbofgaaDoor.M Go.Proofs.QGf Go.Proofs.YtldfcpmapbofgaaDoor.Br

theorem same_yes3 (M : List Int) (h : M.length ≤ 1000000000) : Ev (fun k => quietusref06_Same.f k M M) true := by
  have h1 := same_ev M M h
  rwa [decide_eq_true (rfl : M = M)] at h1
theorem sameI_yes3 (M : List Int) (h : M.length ≤ 1000000000) : Ev (fun k => quietusref06_SameInts.f k M M) true := by
  have h1 := sameInts_ev M M h
  rwa [decide_eq_true (rfl : M = M)] at h1
theorem sane3 : Ev (fun _ : Nat => quietuslaw06_sanity.f) true := Ev.const rfl
theorem refuse0 (xs ys o : List G) (d w : Nat) (hx : xs.length ≤ 40) (hn : xs.Nodup) (hy : xs.length = ys.length) (ho : o.length ≤ d + 1) (hr : d + 1 + 2 * w ≤ xs.length) :
    Ev (fun k => quietuslaw06_PolyRefuses.j0 k (en xs) (en ys) (en o) (d : Int) (w : Int) false) true := by
  have so := sz_le_length o
  have hmo := rmissed_ev o xs ys (by omega) (by omega) (by omega)
  have lo := missedN_le o xs ys xs.length
  refine Ev.succ ?_
  simp only [quietuslaw06_PolyRefuses.j0]
  refine Ev.ifn (by simp) ?_
  rcases Decode_ev xs ys hn d w (by omega) hy hr with ⟨p, hp, tp, lp, mp, hu⟩ | ⟨hp, hu⟩
  · have lm := missedN_le p xs ys xs.length
    have hmp := rmissed_ev p xs ys (by omega) (by omega) (by omega)
    refine Ev.bind hp (Ev.bind hmo (Ev.ifn (show ¬ (0 : Int) = 17 by decide) (Ev.ifp rfl (Ev.ifn ?_ (Ev.ifn (by rw [missedI_length]; omega) (Ev.bind hmp (Ev.bind (sameI_yes3 _ (by rw [missedI_length]; omega)) ?_)))))))
    · rw [en_length, w64 (by omega) (by omega)]; omega
    · refine Ev.succ ?_
      simp only [quietuslaw06_PolyRefuses.j1]
      refine Ev.ifn (by simp) (Ev.bind sane3 (Ev.ifp rfl ?_))
      by_cases h : w < (missedN o xs ys xs.length).length
      · exact Ev.ifp (by rw [missedI_length]; omega) (Ev.now _)
      · refine Ev.ifn (by rw [missedI_length]; omega) (Ev.bind (trim_ev o (by omega)) ?_)
        rw [hu o (by omega) (by omega)]
        exact Ev.bind (same_yes3 (en p) (by rw [en_length]; omega)) (Ev.now _)
  · have h := hu o (by omega)
    refine Ev.bind hp (Ev.bind hmo (Ev.ifp rfl (Ev.bind sane3 (Ev.ifp rfl ?_))))
    rw [missedI_length, decide_eq_true (by omega)]
    exact Ev.now _
theorem refuse_byte {a : Int} (h : (Lit.int .u8 a).wf = true) : ∃ n : Nat, n < 256 ∧ a = (n : Int) := by
  obtain ⟨g, rfl⟩ := de1 h
  exact ⟨g.n, g.lt, rfl⟩
theorem PolyRefuses : quietuslaw06_PolyRefuses.Pure := by
  intro l0 l1 a2 a3 l4 hm0 _ h0 _ _ h1 h2 h3 hm4 _ h4
  obtain ⟨xs, rfl⟩ := de h0
  obtain ⟨ys, rfl⟩ := de h1
  obtain ⟨o, rfl⟩ := de h4
  obtain ⟨d, hd, rfl⟩ := refuse_byte h2
  obtain ⟨w, hw, rfl⟩ := refuse_byte h3
  refine Ev.rounds ?_
  have long : Ev (fun k => quietuslaw06_PolyRefuses.j0 k (en xs) (en ys) (en o) (d : Int) (w : Int) true) true := by
    refine Ev.succ ?_
    simp only [quietuslaw06_PolyRefuses.j0]
    exact Ev.ifp (by trivial) (Ev.bind sane3 (Ev.now _))
  unfold quietuslaw06_PolyRefuses.f
  refine Ev.bind (rright_ev xs ys (by rw [en_length] at hm0; exact hm0)) ?_
  rw [w64 (x := (d : Int)) (by omega) (by omega), w64 (x := (w : Int)) (by omega) (by omega)]
  by_cases hx : xs.length ≤ 40
  · refine Ev.ifn (by rw [en_length]; omega) ?_
    by_cases hr : xs.Nodup ∧ xs.length = ys.length
    · rw [decide_eq_true hr]
      refine Ev.ifp rfl ?_
      rw [w64 (x := (d : Int) + 1) (by omega) (by omega), w64 (x := 2 * (w : Int)) (by omega) (by omega), w64 (x := (d : Int) + 1 + 2 * (w : Int)) (by omega) (by omega)]
      by_cases ho : o.length ≤ d + 1
      · refine Ev.ifn (by rw [en_length]; omega) ?_
        rw [en_length]
        by_cases hn : d + 1 + 2 * w ≤ xs.length
        · rw [decide_eq_false (by omega)]
          exact refuse0 xs ys o d w hx hr.1 hr.2 ho hn
        · rw [decide_eq_true (by omega)]
          exact long
      · exact Ev.ifp (by rw [en_length]; omega) long
    · rw [decide_eq_false hr]
      exact Ev.ifn (by simp) long
  · exact Ev.ifp (by rw [en_length]; omega) long
end Go.Proofs.YtldfcpmapbofgaaDoor.Pure
