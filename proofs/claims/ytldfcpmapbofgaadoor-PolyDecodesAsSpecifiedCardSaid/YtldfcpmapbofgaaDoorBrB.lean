/- The printed Line, Interpolate and Through of the specification. -/
import Derived.Test.YtldfcpmapbofgaaDoorBr8
import Derived.Test.YtldfcpmapbofgaaDoorM10
import Derived.Test.YtldfcpmapbofgaaDoorM13
namespace Go.Proofs.YtldfcpmapbofgaaDoor.Br
open Go.RowKit Go.Proofs.YtldfcpmapbofgaaDoorW.PrintWords Go.Proofs.YtldfcpmapbofgaaDoorW.PrintMore Go.Proofs.YtldfcpmapbofgaaDoor.M Go.Proofs.QGf

theorem sz_mul_le (p q : List G) (hq : q.length ≤ 2) : sz (mul p q) ≤ p.length + 1 := by
  by_cases hp : sz p = 0
  · rw [sz_mul_zero_left hp]; omega
  · by_cases h : sz q = 0
    · rw [sz_mul_zero_right _ h]; omega
    · have h1 := sz_mul hp h
      have h2 := sz_le_length p
      have h3 := sz_le_length q
      omega
theorem Line_inner (xs ys out : List G) (hn : xs.Nodup) (hx : xs.length ≤ 1000) (K : Nat) (hK : K < xs.length) (R : List Int)
    (h : ∀ p : List G, p.length ≤ xs.length → eval p (coef xs K) = coef ys K → (∀ m, m < xs.length → m ≠ K → eval p (coef xs m) = 0) →
      Ev (fun k => (quietusref06_Add.f k (en out) (en p)).bind fun t => (quietusref06_Line.l0 k (en xs) (en ys) t (wrap64 ((K : Int) + 1)))) R) :
    ∀ (d i : Nat) (p : List G), xs.length - i = d → i ≤ xs.length → p.length ≤ (if K < i then i else i + 1) → eval p (coef xs K) = coef ys K → (∀ m, m < i → m ≠ K → eval p (coef xs m) = 0) →
      Ev (fun k => quietusref06_Line.l1 k (en xs) (en ys) (en out) (K : Int) (en p) (i : Int)) R := by
  intro d
  induction d with
  | zero =>
    intro i p hd hi hl he hz
    refine Ev.succ ?_
    simp only [quietusref06_Line.l1]
    refine Ev.ifn (by rw [en_length]; omega) ?_
    rw [if_pos (by omega)] at hl
    exact h p (by omega) he (fun m hm => hz m (by omega))
  | succ d ih =>
    intro i p hd hi hl he hz
    refine Ev.succ ?_
    simp only [quietusref06_Line.l1]
    refine Ev.ifp (by rw [en_length]; omega) ?_
    rw [w64 (x := (i : Int) + 1) (by omega) (by omega), show (i : Int) + 1 = ((i + 1 : Nat) : Int) from by omega]
    by_cases e : i = K
    · subst e
      refine Ev.ifp rfl ?_
      refine ih (i + 1) p (by omega) (by omega) ?_ he (fun m hm hne => hz m (by omega) hne)
      rw [if_neg (by omega)] at hl
      rw [if_pos (by omega)]
      exact hl
    · refine Ev.ifn (by omega) (Ev.ifp (by omega) (Ev.ifp (by rw [en_length]; omega) (Ev.ifp (by omega) ?_)))
      rw [rd_en', rd_en', xor_n]
      obtain ⟨c, hc⟩ : ∃ c, c = inv (coef xs K + coef xs i) := ⟨_, rfl⟩
      have hne : coef xs K + coef xs i ≠ 0 := fun h0 => coef_ne hn hK (by omega) (fun h => e h.symm) (add_eq_zero.1 h0)
      refine Ev.bind (rinv_ev _) ?_
      rw [← hc]
      refine Ev.bind (rmul_ev _ _) ?_
      have hpl : p.length ≤ 1001 := by split at hl <;> omega
      refine Ev.bind (rproduct_ev p [coef xs i * c, c] (by omega) (by simp)) ?_
      have hev : ∀ z, eval (trim (mul p [coef xs i * c, c])) z = eval p z * ((z + coef xs i) * c) := fun z => by
        rw [eval_trim, eval_mul]
        simp only [eval_cons, eval_nil, mul_zero, add_zero]
        rw [add_mul, add_comm (z * c)]
      refine ih (i + 1) _ (by omega) (by omega) ?_ ?_ (fun m hm hmK => ?_)
      · have h1 := sz_mul_le p [coef xs i * c, c] (by simp)
        rw [length_trim]
        by_cases hk : K < i
        · rw [if_pos hk] at hl
          rw [if_pos (by omega)]
          omega
        · rw [if_neg hk] at hl
          rw [if_neg (by omega)]
          omega
      · rw [hev, hc, mul_inv hne, mul_one, he]
      · rw [hev]
        by_cases em : m = i
        · subst em
          rw [add_self, zero_mul, mul_zero]
        · rw [hz m (by omega) hmK, zero_mul]
/-- The specification's polynomial through points. -/
theorem Line_ev (xs ys : List G) (hn : xs.Nodup) (hx : xs.length ≤ 1000) (hy : xs.length = ys.length) :
    ∃ P : List G, Ev (fun k => quietusref06_Line.f k (en xs) (en ys)) (en P) ∧ trim P = P ∧ P.length ≤ xs.length ∧ Fit xs ys P := by
  have key : ∀ (d j : Nat) (o : List G), xs.length - j = d → j ≤ xs.length → trim o = o → o.length ≤ xs.length → (∀ i, i < xs.length → eval o (coef xs i) = if i < j then coef ys i else 0) →
      ∃ P : List G, Ev (fun k => quietusref06_Line.l0 k (en xs) (en ys) (en o) (j : Int)) (en P) ∧ trim P = P ∧ P.length ≤ xs.length ∧ Fit xs ys P := by
    intro d
    induction d with
    | zero =>
      intro j o hd hj ht hl hv
      refine ⟨o, ?_, ht, hl, fun i hi => by rw [hv i hi, if_pos (by omega)]⟩
      refine Ev.succ ?_
      simp only [quietusref06_Line.l0]
      refine Ev.ifn (by rw [en_length]; omega) ?_
      exact Ev.now _
    | succ d ih =>
      intro j o hd hj ht hl hv
      have main : ∃ p : List G, p.length ≤ xs.length ∧ eval p (coef xs j) = coef ys j ∧ (∀ m, m < xs.length → m ≠ j → eval p (coef xs m) = 0) := by
        obtain ⟨Q, -, hQl, hQv⟩ := part_ev xs (coef xs j) (coef ys j) hn hx (coef_mem (by omega))
        refine ⟨Q, hQl, by rw [hQv _ (coef_mem (by omega)), if_pos rfl], fun m hm hne => ?_⟩
        rw [hQv _ (coef_mem hm), if_neg (coef_ne hn hm (by omega) hne)]
      obtain ⟨q, ql, qe, qz⟩ := main
      have hlen : ∀ p : List G, p.length ≤ xs.length → (trim (add o p)).length ≤ xs.length := fun p hp => by
        have h2 := sz_le_length (add o p)
        have h3 := length_add o p
        rw [length_trim]
        omega
      have hval : ∀ p : List G, eval p (coef xs j) = coef ys j → (∀ m, m < xs.length → m ≠ j → eval p (coef xs m) = 0) → ∀ i, i < xs.length → eval (trim (add o p)) (coef xs i) = if i < j + 1 then coef ys i else 0 := fun p he hz i hi => by
        rw [eval_trim, eval_add, hv i hi]
        by_cases e : i = j
        · subst e
          rw [if_neg (by omega), he, if_pos (by omega), zero_add]
        · rw [hz i hi e, add_zero]
          by_cases h : i < j
          · rw [if_pos h, if_pos (by omega)]
          · rw [if_neg h, if_neg (by omega)]
      obtain ⟨P, hP, tP, lP, fP⟩ := ih (j + 1) (trim (add o q)) (by omega) (by omega) (trim_trim _) (hlen q ql) (hval q qe qz)
      refine ⟨P, ?_, tP, lP, fP⟩
      refine Ev.succ ?_
      simp only [quietusref06_Line.l0]
      refine Ev.ifp (by rw [en_length]; omega) (Ev.ifp (by omega) (Ev.ifp (by rw [en_length]; omega) ?_))
      rw [rd_en']
      refine Line_inner xs ys o hn hx j (by omega) (en P) (fun p hp he hz => ?_) xs.length 0 [coef ys j] rfl (Nat.zero_le _) (by simp) (by simp) (fun m hm => absurd hm (by omega))
      refine Ev.bind (radd_ev o p (by omega) (by omega)) ?_
      rw [w64 (by omega) (by omega), show (j : Int) + 1 = ((j + 1 : Nat) : Int) from by omega]
      rw [show trim (add o p) = trim (add o q) from trim_congr (fun m => by
        have e := agree (p := p) (q := q) hn (Nat.le_trans (sz_le_length p) hp) (Nat.le_trans (sz_le_length q) ql) (fun x hx => by
          obtain ⟨i, hi, rfl⟩ := mem_coef hx
          by_cases ei : i = j
          · rw [ei, he, qe]
          · rw [hz i hi ei, qz i hi ei])
        rw [coef_add, coef_add, trim_iff.1 e m])]
      exact hP
  obtain ⟨P, hP, rest⟩ := key xs.length 0 [] rfl (Nat.zero_le _) rfl (Nat.zero_le _) (fun i hi => by rw [if_neg (by omega)]; rfl)
  exact ⟨P, hP, rest⟩
theorem rInterpolate_not (xs ys : List G) (hx : xs.length ≤ 9223372036854775807) (h : ¬ (xs.Nodup ∧ xs.length = ys.length)) : Ev (fun k => quietusref06_Interpolate.f k (en xs) (en ys)) ([], 1) := by
  unfold quietusref06_Interpolate.f
  refine Ev.bind (rright_ev xs ys hx) ?_
  rw [decide_eq_false h]
  exact Ev.ifn (by simp) (Ev.now _)
theorem rInterpolate_ev (xs ys : List G) (hn : xs.Nodup) (hx : xs.length ≤ 1000) (hy : xs.length = ys.length) :
    ∃ P : List G, Ev (fun k => quietusref06_Interpolate.f k (en xs) (en ys)) (en P, 0) ∧ trim P = P ∧ P.length ≤ xs.length ∧ Fit xs ys P := by
  obtain ⟨P, h, rest⟩ := Line_ev xs ys hn hx hy
  refine ⟨P, ?_, rest⟩
  unfold quietusref06_Interpolate.f
  refine Ev.bind (rright_ev xs ys (by omega)) ?_
  rw [decide_eq_true ⟨hn, hy⟩]
  exact Ev.ifp rfl (Ev.bind h (Ev.now _))
theorem rThrough_not (xs ys : List G) (d : Int) (hx : xs.length ≤ 9223372036854775807) (h : ¬ (xs.Nodup ∧ xs.length = ys.length)) : Ev (fun k => quietusref06_Through.f k (en xs) (en ys) d) ([], 1) := by
  unfold quietusref06_Through.f
  refine Ev.bind (rright_ev xs ys hx) ?_
  rw [decide_eq_false h]
  exact Ev.ifn (by simp) (Ev.now _)
theorem rThrough_range (xs ys : List G) (d : Int) (h : xs.Nodup ∧ xs.length = ys.length) (hx : xs.length ≤ 1000) (hd : d < 0 ∨ (xs.length : Int) ≤ d) : Ev (fun k => quietusref06_Through.f k (en xs) (en ys) d) ([], 3) := by
  have last : Ev (fun k => quietusref06_Through.j0 k (en xs) (en ys) d true) ([], 3) := by
    refine Ev.succ ?_
    simp only [quietusref06_Through.j0]
    exact Ev.ifp (by trivial) (Ev.now _)
  unfold quietusref06_Through.f
  refine Ev.bind (rright_ev xs ys (by omega)) ?_
  rw [decide_eq_true h]
  refine Ev.ifp rfl ?_
  by_cases h0 : d < 0
  · exact Ev.ifp h0 last
  · refine Ev.ifn h0 ?_
    rw [en_length, decide_eq_true (by omega)]
    exact last
theorem coef_take {p : List G} {n i : Nat} (h : i < n) : coef (p.take n) i = coef p i := by
  unfold coef
  rw [List.getD_eq_getElem?_getD, List.getD_eq_getElem?_getD, List.getElem?_take, if_pos h]
theorem missedN_nil_of_fit {p xs ys : List G} (h : Fit xs ys p) : missedN p xs ys xs.length = [] := by
  unfold missedN
  rw [List.filter_eq_nil_iff]
  intro i hi
  rw [List.mem_range] at hi
  simp [bad, h i hi]
theorem fit_of_missedN {p xs ys : List G} (h : missedN p xs ys xs.length = []) : Fit xs ys p := by
  unfold missedN at h
  rw [List.filter_eq_nil_iff] at h
  intro i hi
  have := h i (List.mem_range.2 hi)
  simpa [bad] using this
/-- The specification's Through agrees with the polynomial through all points. -/
theorem rThrough_ev (xs ys P : List G) (d : Nat) (hn : xs.Nodup) (hx : xs.length ≤ 1000) (hy : xs.length = ys.length) (hd : d < xs.length) (tP : trim P = P) (lP : P.length ≤ xs.length) (fP : Fit xs ys P) :
    Ev (fun k => quietusref06_Through.f k (en xs) (en ys) (d : Int)) (if d + 1 < P.length then ([], 8) else (en P, 0)) := by
  have hl1 : (xs.take (d + 1)).length = d + 1 := by rw [List.length_take]; omega
  have hl2 : (ys.take (d + 1)).length = d + 1 := by rw [List.length_take]; omega
  have hn1 : (xs.take (d + 1)).Nodup := hn.sublist (List.take_sublist _ _)
  obtain ⟨Q, hQ, tQ, lQ, fQ⟩ := Line_ev (xs.take (d + 1)) (ys.take (d + 1)) hn1 (by omega) (by omega)
  rw [hl1] at lQ
  have fQ1 : ∀ i, i < d + 1 → eval Q (coef xs i) = coef ys i := fun i hi => by
    have := fQ i (by omega)
    rw [coef_take hi, coef_take hi] at this
    exact this
  unfold quietusref06_Through.f
  refine Ev.bind (rright_ev xs ys (by omega)) ?_
  rw [decide_eq_true ⟨hn, hy⟩]
  refine Ev.ifp rfl (Ev.ifn (by omega) ?_)
  rw [en_length, decide_eq_false (by omega)]
  refine Ev.succ ?_
  simp only [quietusref06_Through.j0]
  rw [w64 (x := (d : Int) + 1) (by omega) (by omega), show (d : Int) + 1 = ((d + 1 : Nat) : Int) from by omega, Int.toNat_natCast, en_take, en_take]
  refine Ev.ifn (by simp) (Ev.ifp (by omega) (Ev.ifp (by rw [en_length]; omega) (Ev.ifp (by rw [en_length]; omega) (Ev.bind hQ (Ev.bind (rmissed_ev Q xs ys (by omega) hx (by omega)) ?_)))))
  by_cases h0 : missedN Q xs ys xs.length = []
  · have fQ2 := fit_of_missedN h0
    have e := fit_unique hn (Nat.le_trans (sz_le_length P) lP) (Nat.le_trans (sz_le_length Q) (by omega)) fP fQ2
    rw [tP, tQ] at e
    subst e
    have hR : (if d + 1 < P.length then (([] : List Int), (8 : Int)) else (en P, 0)) = (en P, 0) := if_neg (by omega)
    rw [hR]
    refine Ev.ifn ?_ (Ev.now _)
    rw [missedI_length, h0]; simp
  · have hlen : 0 < (missedN Q xs ys xs.length).length := List.length_pos_iff.2 h0
    have hR : (if d + 1 < P.length then (([] : List Int), (8 : Int)) else (en P, 0)) = ([], 8) := if_pos (by
      rcases Nat.lt_or_ge (d + 1) P.length with h | h
      · exact h
      · exfalso
        have fP1 : Fit (xs.take (d + 1)) (ys.take (d + 1)) P := fun i hi => by
          rw [coef_take (by omega), coef_take (by omega)]
          exact fP i (by omega)
        have e := fit_unique hn1 (Nat.le_trans (sz_le_length P) (by omega)) (Nat.le_trans (sz_le_length Q) (by omega)) fP1 fQ
        rw [tP, tQ] at e
        subst e
        exact h0 (missedN_nil_of_fit fP))
    rw [hR]
    exact Ev.ifp (by rw [missedI_length]; omega) (Ev.now _)
end Go.Proofs.YtldfcpmapbofgaaDoor.Br
