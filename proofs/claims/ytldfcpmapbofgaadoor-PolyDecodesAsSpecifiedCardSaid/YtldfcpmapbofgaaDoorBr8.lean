/- The printed Interpolate, Through, and the specification's Right and Missed; the values at points. -/
import Derived.Test.YtldfcpmapbofgaaDoorBr5
import Derived.Test.YtldfcpmapbofgaaDoorBr7
import Derived.Test.YtldfcpmapbofgaaDoorM2
import Derived.Test.YtldfcpmapbofgaaDoorM6
import Derived.Test.YtldfcpmapbofgaaDoorM8
import Derived.Test.YtldfcpmapbofgaaDoorM11
namespace Go.Proofs.YtldfcpmapbofgaaDoor.Br
open Go.RowKit Go.Proofs.YtldfcpmapbofgaaDoorW.PrintWords Go.Proofs.YtldfcpmapbofgaaDoorW.PrintMore Go.Proofs.YtldfcpmapbofgaaDoor.M Go.Proofs.QGf

theorem rright_ev (xs ys : List G) (hx : xs.length ≤ 9223372036854775807) : Ev (fun k => quietusref06_Right.f k (en xs) (en ys)) (decide (xs.Nodup ∧ xs.length = ys.length)) := by
  have inner : ∀ (d i k : Nat) (b : Bool), i - k = d → k ≤ i → (hi : i < xs.length) → xs[i] ∉ xs.take k → (xs.Nodup → b = decide (xs.Nodup ∧ xs.length = ys.length)) → (¬ xs.Nodup → b = false) →
      ((xs[i] ∉ xs.take i) → Ev (fun n => quietusref06_Right.l0 n (en xs) (en ys) (wrap64 ((i : Int) + 1))) b) → Ev (fun n => quietusref06_Right.l1 n (en xs) (en ys) (i : Int) (k : Int)) b := by
    intro d
    induction d with
    | zero =>
      intro i k b hd hk hi hm h1 h2 h
      refine Ev.succ ?_
      simp only [quietusref06_Right.l1]
      refine Ev.ifn (by omega) (h ?_)
      have e : i = k := by omega
      subst e
      exact hm
    | succ d ih =>
      intro i k b hd hk hi hm h1 h2 h
      refine Ev.succ ?_
      simp only [quietusref06_Right.l1]
      refine Ev.ifp (by omega) (Ev.ifp (by omega) (Ev.ifp (by rw [en_length]; omega) (Ev.ifp (by omega) (Ev.ifp (by rw [en_length]; omega) ?_))))
      rw [rd_en', rd_en', coef_lt hi, coef_lt (by omega : k < xs.length)]
      by_cases e : xs[i] = xs[k]
      · refine Ev.ifp (n_inj.2 e) ?_
        rw [h2 (fun hn => List.pairwise_iff_getElem.1 hn k i (by omega) hi (by omega) e.symm)]
        exact Ev.now _
      · refine Ev.ifn (fun h => e (n_inj.1 h)) ?_
        rw [w64 (by omega) (by omega), show (k : Int) + 1 = ((k + 1 : Nat) : Int) from by omega]
        refine ih i (k + 1) b (by omega) (by omega) hi ?_ h1 h2 h
        rw [List.take_succ_eq_append_getElem (by omega : k < xs.length), List.mem_append, List.mem_singleton]
        exact fun hh => hh.elim hm e
  have outer : ∀ (d i : Nat), xs.length - i = d → i ≤ xs.length → (xs.take i).Nodup → Ev (fun n => quietusref06_Right.l0 n (en xs) (en ys) (i : Int)) (decide (xs.Nodup ∧ xs.length = ys.length)) := by
    intro d
    induction d with
    | zero =>
      intro i hd hi hn
      refine Ev.succ ?_
      simp only [quietusref06_Right.l0]
      refine Ev.ifn (by rw [en_length]; omega) ?_
      rw [List.take_of_length_le (by omega)] at hn
      rw [en_length, en_length, show decide (xs.Nodup ∧ xs.length = ys.length) = ((xs.length : Int) == (ys.length : Int)) from by
        rw [Bool.eq_iff_iff]; simp [hn]; omega]
      exact Ev.now _
    | succ d ih =>
      intro i hd hi hn
      refine Ev.succ ?_
      simp only [quietusref06_Right.l0]
      refine Ev.ifp (by rw [en_length]; omega) ?_
      refine inner i i 0 _ rfl (Nat.zero_le _) (by omega) (by simp) (fun _ => rfl) (fun h => by simp [h]) (fun hm => ?_)
      rw [w64 (by omega) (by omega), show (i : Int) + 1 = ((i + 1 : Nat) : Int) from by omega]
      refine ih (i + 1) (by omega) (by omega) ?_
      rw [List.take_succ_eq_append_getElem (by omega : i < xs.length), List.nodup_append]
      refine ⟨hn, by simp, fun a ha b hb => ?_⟩
      rw [List.mem_singleton.1 hb]
      exact fun e => hm (e ▸ ha)
  exact outer xs.length 0 rfl (Nat.zero_le _) (by simp)

/-- The points that a polynomial misses. -/
def bad (p xs ys : List G) (i : Nat) : Bool := decide (eval p (coef xs i) ≠ coef ys i)
def missedN (p xs ys : List G) (n : Nat) : List Nat := (List.range n).filter (bad p xs ys)
def missedI (p xs ys : List G) (n : Nat) : List Int := (missedN p xs ys n).map (fun i : Nat => (i : Int))
@[simp] theorem missedI_length (p xs ys : List G) (n : Nat) : (missedI p xs ys n).length = (missedN p xs ys n).length := by simp [missedI]
theorem missedN_le (p xs ys : List G) (n : Nat) : (missedN p xs ys n).length ≤ n := by
  have := List.length_filter_le (bad p xs ys) (List.range n)
  rw [List.length_range] at this
  exact this
theorem missedI_succ (p xs ys : List G) (n : Nat) : missedI p xs ys (n + 1) = if eval p (coef xs n) = coef ys n then missedI p xs ys n else missedI p xs ys n ++ [(n : Int)] := by
  unfold missedI missedN
  rw [List.range_succ, List.filter_append, List.map_append]
  by_cases h : eval p (coef xs n) = coef ys n
  · rw [if_pos h, show List.filter (bad p xs ys) [n] = [] from by simp [bad, h]]; simp
  · rw [if_neg h, show List.filter (bad p xs ys) [n] = [n] from by simp [bad, h]]; rfl
theorem rmissed_ev (p xs ys : List G) (hp : p.length ≤ 1000000000) (hx : xs.length ≤ 1000) (hy : xs.length ≤ ys.length) : Ev (fun k => quietusref06_Missed.f k (en p) (en xs) (en ys)) (missedI p xs ys xs.length) := by
  have key : ∀ (d j : Nat), xs.length - j = d → j ≤ xs.length → Ev (fun k => quietusref06_Missed.l0 k (en p) (en xs) (en ys) (missedI p xs ys j) (j : Int)) (missedI p xs ys xs.length) := by
    intro d
    induction d with
    | zero =>
      intro j hd hj
      refine Ev.succ ?_
      simp only [quietusref06_Missed.l0]
      refine Ev.ifn (by rw [en_length]; omega) ?_
      rw [show j = xs.length from by omega]
      exact Ev.now _
    | succ d ih =>
      intro j hd hj
      have g := ih (j + 1) (by omega) (by omega)
      rw [missedI_succ] at g
      have hl := missedN_le p xs ys j
      refine Ev.succ ?_
      simp only [quietusref06_Missed.l0]
      refine Ev.ifp (by rw [en_length]; omega) (Ev.ifp (by omega) ?_)
      rw [rd_en', rd_en', w64 (by omega) (by omega), show (j : Int) + 1 = ((j + 1 : Nat) : Int) from by omega]
      refine Ev.bind (reval_ev p _ hp) (Ev.ifp (by rw [en_length]; omega) ?_)
      by_cases e : eval p (coef xs j) = coef ys j
      · rw [if_pos e] at g
        exact Ev.ifp (n_inj.2 e) g
      · rw [if_neg e] at g
        exact Ev.ifn (fun h => e (n_inj.1 h)) (Ev.ifp (by rw [missedI_length]; omega) g)
  have h := key xs.length 0 rfl (Nat.zero_le _)
  unfold quietusref06_Missed.f
  exact h
/-- The values at points. -/
theorem en_one (g : G) : en [g] = [(g.n : Int)] := rfl
def valuesP (p xs : List G) : List G := xs.map (eval p)
@[simp] theorem valuesP_length (p xs : List G) : (valuesP p xs).length = xs.length := by simp [valuesP]
theorem coef_valuesP (p xs : List G) {i : Nat} (h : i < xs.length) : coef (valuesP p xs) i = eval p (coef xs i) := by
  rw [coef_lt (by simpa using h), coef_lt h]; simp [valuesP]
theorem values_ev (p xs : List G) (hp : p.length ≤ 1000000000) (hx : xs.length ≤ 1000) : Ev (fun k => quietuslaw06_values.f k (en p) (en xs)) (en (valuesP p xs)) := by
  have key : ∀ (d j : Nat), xs.length - j = d → j ≤ xs.length → Ev (fun k => quietuslaw06_values.l0 k (en p) (en xs) (en (valuesP p (xs.take j))) (j : Int)) (en (valuesP p xs)) := by
    intro d
    induction d with
    | zero =>
      intro j hd hj
      refine Ev.succ ?_
      simp only [quietuslaw06_values.l0]
      refine Ev.ifn (by rw [en_length]; omega) ?_
      rw [List.take_of_length_le (by omega)]
      exact Ev.now _
    | succ d ih =>
      intro j hd hj
      have g := ih (j + 1) (by omega) (by omega)
      refine Ev.succ ?_
      simp only [quietuslaw06_values.l0]
      refine Ev.ifp (by rw [en_length]; omega) (Ev.ifp (by omega) ?_)
      rw [rd_en', w64 (by omega) (by omega), show (j : Int) + 1 = ((j + 1 : Nat) : Int) from by omega]
      refine Ev.bind (eval_ev p _ hp) (Ev.ifp (by simp; omega) ?_)
      rw [show en (valuesP p (xs.take (j + 1))) = en (valuesP p (xs.take j)) ++ [((eval p (coef xs j)).n : Int)] from by
        rw [List.take_succ_eq_append_getElem (by omega : j < xs.length), coef_lt (by omega : j < xs.length), ← en_one, ← en_append]; unfold valuesP; rw [List.map_append]; rfl] at g
      exact g
  have h := key xs.length 0 rfl (Nat.zero_le _)
  unfold quietuslaw06_values.f
  exact h

theorem fit_valuesP (p xs : List G) : Fit xs (valuesP p xs) p := fun _ hi => (coef_valuesP p xs hi).symm
theorem values_fit {xs ys p : List G} (hy : xs.length = ys.length) (h : Fit xs ys p) : valuesP p xs = ys :=
  same_coefs (by simpa using hy) (fun m => by
    by_cases hm : m < xs.length
    · rw [coef_valuesP p xs hm, h m hm]
    · rw [coef_ge (by simp; omega), coef_ge (by omega)])
theorem Interpolate_ev (xs ys : List G) (hn : xs.Nodup) (hx : xs.length ≤ 1000) (hy : xs.length = ys.length) :
    ∃ P : List G, Ev (fun k => poly_Interpolate.f k (en xs) (en ys)) (en P, 0) ∧ trim P = P ∧ P.length ≤ xs.length ∧ Fit xs ys P := by
  obtain ⟨P, h, rest⟩ := through_ev xs ys hn hx hy
  refine ⟨P, ?_, rest⟩
  unfold poly_Interpolate.f
  rw [right_ev, decide_eq_true ⟨hn, hy⟩]
  simp only [Option.bind_some, if_true]
  exact Ev.bind h (Ev.now _)
theorem Interpolate_not (xs ys : List G) (h : ¬ (xs.Nodup ∧ xs.length = ys.length)) : Ev (fun k => poly_Interpolate.f k (en xs) (en ys)) ([], 1) := by
  unfold poly_Interpolate.f
  rw [right_ev, decide_eq_false h]
  simp only [Option.bind_some]
  exact Ev.ifn (by simp) (Ev.now _)
theorem Through_not (xs ys : List G) (d : Int) (h : ¬ (xs.Nodup ∧ xs.length = ys.length)) : Ev (fun k => poly_Through.f k (en xs) (en ys) d) ([], 1) := by
  unfold poly_Through.f
  rw [right_ev, decide_eq_false h]
  simp only [Option.bind_some]
  exact Ev.ifn (by simp) (Ev.now _)
theorem Through_range (xs ys : List G) (d : Int) (h : xs.Nodup ∧ xs.length = ys.length) (hd : d < 0 ∨ (xs.length : Int) ≤ d) : Ev (fun k => poly_Through.f k (en xs) (en ys) d) ([], 3) := by
  have last : Ev (fun k => poly_Through.j0 k (en xs) (en ys) d true) ([], 3) := by
    refine Ev.succ ?_
    simp only [poly_Through.j0]
    exact Ev.ifp (by trivial) (Ev.now _)
  unfold poly_Through.f
  rw [right_ev, decide_eq_true h]
  simp only [Option.bind_some, if_true]
  by_cases h0 : d < 0
  · exact Ev.ifp h0 last
  · refine Ev.ifn h0 ?_
    rw [en_length, decide_eq_true (by omega)]
    exact last
theorem Through_ev (xs ys : List G) (d : Nat) (hn : xs.Nodup) (hx : xs.length ≤ 1000) (hy : xs.length = ys.length) (hd : d < xs.length) :
    ∃ P : List G, Ev (fun k => poly_Through.f k (en xs) (en ys) (d : Int)) (if d + 1 < P.length then ([], 8) else (en P, 0)) ∧ trim P = P ∧ P.length ≤ xs.length ∧ Fit xs ys P := by
  obtain ⟨P, h, ht, hl, hf⟩ := through_ev xs ys hn hx hy
  refine ⟨P, ?_, ht, hl, hf⟩
  unfold poly_Through.f
  rw [right_ev, decide_eq_true ⟨hn, hy⟩]
  simp only [Option.bind_some, if_true]
  refine Ev.ifn (by omega) ?_
  rw [en_length, decide_eq_false (by omega)]
  have hs : sz P = P.length := by rw [← length_trim, ht]
  have hdg := degree_ev P (by omega)
  refine Ev.succ ?_
  simp only [poly_Through.j0]
  refine Ev.ifn (by simp) (Ev.bind h (Ev.bind hdg ?_))
  by_cases e : d + 1 < P.length
  · rw [if_pos e]
    exact Ev.ifp (by omega) (Ev.now _)
  · rw [if_neg e]
    exact Ev.ifn (by omega) (Ev.now _)
end Go.Proofs.YtldfcpmapbofgaaDoor.Br
