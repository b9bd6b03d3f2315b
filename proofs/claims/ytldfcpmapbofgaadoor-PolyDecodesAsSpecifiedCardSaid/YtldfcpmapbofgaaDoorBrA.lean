/- The printed Decode, whole. -/
import Derived.Test.YtldfcpmapbofgaaDoorBr9
namespace Go.Proofs.YtldfcpmapbofgaaDoor.Br
open Go.RowKit Go.Proofs.YtldfcpmapbofgaaDoorW.PrintWords Go.Proofs.YtldfcpmapbofgaaDoorW.PrintMore Go.Proofs.YtldfcpmapbofgaaDoor.M Go.Proofs.QGf

theorem Decode_not (xs ys : List G) (d w : Int) (h : ¬ (xs.Nodup ∧ xs.length = ys.length)) : Ev (fun k => poly_Decode.f k (en xs) (en ys) d w) ([], [], 1) := by
  unfold poly_Decode.f
  rw [right_ev, decide_eq_false h]
  simp only [Option.bind_some]
  exact Ev.ifn (by simp) (Ev.now _)
theorem Decode_range (xs ys : List G) (d w : Int) (h : xs.Nodup ∧ xs.length = ys.length) (hx : xs.length ≤ 1000) (hd : d < 0 ∨ w < 0 ∨ (xs.length : Int) ≤ d ∨ (xs.length : Int) - d - 1 < 2 * w) : Ev (fun k => poly_Decode.f k (en xs) (en ys) d w) ([], [], 3) := by
  have last : ∀ a b, Ev (fun k => poly_Decode.j0 k (en xs) (en ys) d w a b true) ([], [], 3) := by
    intro a b
    refine Ev.succ ?_
    simp only [poly_Decode.j0]
    exact Ev.ifp (by trivial) (Ev.now _)
  unfold poly_Decode.f
  rw [right_ev, decide_eq_true h]
  simp only [Option.bind_some, if_true]
  by_cases h0 : d < 0
  · exact Ev.ifp h0 (last _ _)
  · refine Ev.ifn h0 ?_
    by_cases h1 : w < 0
    · exact Ev.ifp h1 (last _ _)
    · refine Ev.ifn h1 ?_
      by_cases h2 : (xs.length : Int) ≤ d
      · exact Ev.ifp (by rw [en_length]; omega) (last _ _)
      · refine Ev.ifn (by rw [en_length]; omega) ?_
        obtain ⟨D, rfl⟩ : ∃ D : Nat, d = (D : Int) := ⟨d.toNat, by omega⟩
        have e : Int.tdiv (((xs.length - D - 1 : Nat)) : Int) 2 = (((xs.length - D - 1) / 2 : Nat) : Int) := rfl
        rw [en_length, w64 (x := (xs.length : Int) - (D : Int)) (by omega) (by omega), w64 (x := (xs.length : Int) - (D : Int) - 1) (by omega) (by omega), show (xs.length : Int) - (D : Int) - 1 = ((xs.length - D - 1 : Nat) : Int) from by omega, e, w64 (by omega) (by omega), decide_eq_true (by omega)]
        exact last _ _
theorem Decode_ev (xs ys : List G) (hn : xs.Nodup) (d w : Nat) (hx : xs.length ≤ 1000) (hy : xs.length = ys.length) (hr : d + 1 + 2 * w ≤ xs.length) :
    Dec xs ys d w (fun k => poly_Decode.f k (en xs) (en ys) (d : Int) (w : Int)) := by
  obtain ⟨P, hP, tP, lP, fP⟩ := through_ev xs ys hn hx hy
  obtain ⟨r1, r2, r3⟩ := roots_prop xs
  have sP := sz_le_length P
  have h := decode_loop xs ys hn d w hx hy hr (sz P) (rootsP xs [1]) P [] [1] (Nat.le_refl _) r1 tP rfl (trim_of_sz sz_one) (by omega) (by rw [sz_one]; decide) (by rw [sz_one, r2]; omega) (by rw [r2]; omega)
    (fun i hi => by rw [(r3 _).2 (coef_mem hi)]; simp) (fun i hi => by rw [fP i hi]; simp)
  refine h.of (fun R hR => ?_)
  have e : Int.tdiv (((xs.length - d - 1 : Nat)) : Int) 2 = (((xs.length - d - 1) / 2 : Nat) : Int) := rfl
  unfold poly_Decode.f
  rw [right_ev, decide_eq_true ⟨hn, hy⟩]
  simp only [Option.bind_some, if_true]
  refine Ev.ifn (by omega) (Ev.ifn (by omega) (Ev.ifn (by rw [en_length]; omega) ?_))
  rw [en_length, w64 (x := (xs.length : Int) - (d : Int)) (by omega) (by omega), w64 (x := (xs.length : Int) - (d : Int) - 1) (by omega) (by omega), show (xs.length : Int) - (d : Int) - 1 = ((xs.length - d - 1 : Nat) : Int) from by omega, e, w64 (by omega) (by omega), decide_eq_false (by omega)]
  refine Ev.succ ?_
  simp only [poly_Decode.j0]
  exact Ev.ifn (by simp) (Ev.bind (roots_ev xs hx) (Ev.bind hP hR))
end Go.Proofs.YtldfcpmapbofgaaDoor.Br
