/- The printed Decode: the polynomial that misses few points, or there is none. -/
import Derived.Test.YtldfcpmapbofgaaDoorBr8
import Derived.Test.YtldfcpmapbofgaaDoorM4
namespace Go.Proofs.YtldfcpmapbofgaaDoor.Br
open Go.RowKit Go.Proofs.YtldfcpmapbofgaaDoorW.PrintWords Go.Proofs.YtldfcpmapbofgaaDoorW.PrintMore Go.Proofs.YtldfcpmapbofgaaDoor.M Go.Proofs.QGf

theorem filter_split {α : Type} (p : α → Bool) : ∀ l : List α, (l.filter p).length + (l.filter (fun x => !p x)).length = l.length
  | [] => rfl
  | a :: l => by
    have := filter_split p l
    by_cases h : p a = true
    · simp [h]; omega
    · simp [h]; omega
theorem few_zeros {xs q : List G} (hn : xs.Nodup) (good : Nat → Bool) (hq : sz q ≤ ((List.range xs.length).filter good).length) (hz : ∀ i, i < xs.length → good i = true → eval q (coef xs i) = 0) : sz q = 0 := by
  refine root_bound_sz (xs := ((List.range xs.length).filter good).map (coef xs)) ?_ (by rw [List.length_map]; exact hq) (fun x hx => ?_)
  · rw [List.Nodup, List.pairwise_map]
    refine List.Pairwise.imp_of_mem (fun {a b} ha hb h => ?_) (List.Pairwise.filter good (List.nodup_range (n := xs.length)))
    rw [List.mem_filter, List.mem_range] at ha hb
    exact coef_ne hn ha.1 hb.1 h
  · obtain ⟨i, hi, rfl⟩ := List.mem_map.1 hx
    rw [List.mem_filter, List.mem_range] at hi
    exact hz i hi.1 hi.2
/-- What the last remainder and its factor say of any polynomial that misses few points. -/
theorem decode_pure {xs ys b v W : List G} (hn : xs.Nodup) (d w : Nat) (hr : d + 1 + 2 * w ≤ xs.length)
    (hb : 2 * (sz b : Int) - 2 < xs.length + d + 1) (hv1 : sz v ≠ 0) (hv : 2 * sz v ≤ xs.length + 1 - d)
    (hev : ∀ i, i < xs.length → eval b (coef xs i) = eval v (coef xs i) * coef ys i) (hW : sz W ≤ d + 1) (hm : (missedN W xs ys xs.length).length ≤ w) : Eqv b (add (mul W v) []) := by
  have hsp := filter_split (bad W xs ys) (List.range xs.length)
  rw [List.length_range] at hsp
  have hmul : sz (mul W v) ≤ sz v + d := by
    by_cases h0 : sz W = 0
    · rw [sz_mul_zero_left h0]; omega
    · have := sz_mul h0 hv1; omega
  have hadd := sz_add b (mul W v)
  have hm' : ((List.range xs.length).filter (bad W xs ys)).length ≤ w := hm
  have hz := few_zeros (q := add b (mul W v)) hn (fun i => !bad W xs ys i) (by omega) (fun i hi hg => by
    have e : eval W (coef xs i) = coef ys i := by simpa [bad] using hg
    rw [eval_add, eval_mul, hev i hi, e, mul_comm (coef ys i), add_self])
  intro k
  have := sz_zero.1 hz k
  rw [coef_add, add_eq_zero] at this
  rw [this, coef_add]; simp
theorem decode_last (xs ys : List G) (p : List G) (w : Nat) (hp : p.length ≤ 1000000000) (hx : xs.length ≤ 1000) (hy : xs.length = ys.length) :
    Ev (fun k => poly_Decode.j2 k (en xs) (en ys) (w : Int) (en p) [] false) (if w < (missedN p xs ys xs.length).length then ([], [], 17) else (en p, missedI p xs ys xs.length, 0)) := by
  have key : ∀ (d j : Nat), xs.length - j = d → j ≤ xs.length → Ev (fun k => poly_Decode.l1 k (en ys) (w : Int) (en p) (missedI p xs ys j) (en xs) (xs.length : Int) (j : Int)) (if w < (missedN p xs ys xs.length).length then ([], [], 17) else (en p, missedI p xs ys xs.length, 0)) := by
    intro d
    induction d with
    | zero =>
      intro j hd hj
      have e : j = xs.length := by omega
      subst e
      refine Ev.succ ?_
      simp only [poly_Decode.l1]
      refine Ev.ifn (by omega) ?_
      by_cases h : w < (missedN p xs ys xs.length).length
      · rw [if_pos h]
        exact Ev.ifp (by rw [missedI_length]; omega) (Ev.now _)
      · rw [if_neg h]
        exact Ev.ifn (by rw [missedI_length]; omega) (Ev.now _)
    | succ d ih =>
      intro j hd hj
      have g := ih (j + 1) (by omega) (by omega)
      rw [missedI_succ] at g
      have hl := missedN_le p xs ys j
      refine Ev.succ ?_
      simp only [poly_Decode.l1]
      refine Ev.ifp (by omega) (Ev.ifp (by omega) (Ev.ifp (by rw [en_length]; omega) ?_))
      rw [rd_en', rd_en', w64 (by omega) (by omega), show (j : Int) + 1 = ((j + 1 : Nat) : Int) from by omega]
      refine Ev.bind (eval_ev p _ hp) (Ev.ifp (by rw [en_length]; omega) ?_)
      by_cases e : eval p (coef xs j) = coef ys j
      · rw [if_pos e] at g
        exact Ev.ifp (n_inj.2 e) g
      · rw [if_neg e] at g
        exact Ev.ifn (fun h => e (n_inj.1 h)) (Ev.ifp (by rw [missedI_length]; omega) g)
  refine Ev.succ ?_
  simp only [poly_Decode.j2]
  refine Ev.ifn (by simp) ?_
  rw [en_length]
  exact key xs.length 0 rfl (Nat.zero_le _)
/-- What Decode returns: the one polynomial that misses few points, or the news that there is none. -/
def Dec (xs ys : List G) (d w : Nat) (g : Nat → Option (List Int × List Int × Int)) : Prop :=
  (∃ p, Ev g (en p, missedI p xs ys xs.length, 0) ∧ trim p = p ∧ p.length ≤ d + 1 ∧ (missedN p xs ys xs.length).length ≤ w ∧ ∀ W, sz W ≤ d + 1 → (missedN W xs ys xs.length).length ≤ w → trim W = p) ∨
  (Ev g ([], [], 17) ∧ ∀ W, sz W ≤ d + 1 → w < (missedN W xs ys xs.length).length)
theorem Dec.of {xs ys : List G} {d w : Nat} {g f : Nat → Option (List Int × List Int × Int)} (h : Dec xs ys d w f) (e : ∀ r, Ev f r → Ev g r) : Dec xs ys d w g := by
  rcases h with ⟨p, h1, h2⟩ | ⟨h1, h2⟩
  · exact .inl ⟨p, e _ h1, h2⟩
  · exact .inr ⟨e _ h1, h2⟩
theorem trim_len {p : List G} (h : trim p = p) : p.length = sz p := by rw [← length_trim, h]
theorem decode_end (xs ys b v : List G) (hn : xs.Nodup) (d w : Nat) (hx : xs.length ≤ 1000) (hy : xs.length = ys.length) (hr : d + 1 + 2 * w ≤ xs.length)
    (hb : 2 * (sz b : Int) - 2 < xs.length + d + 1) (hv1 : sz v ≠ 0) (hv : 2 * sz v ≤ xs.length + 1 - d) (tb : trim b = b) (tv : trim v = v)
    (hev : ∀ i, i < xs.length → eval b (coef xs i) = eval v (coef xs i) * coef ys i) :
    Dec xs ys d w (fun k => (poly_divide.f k (en b) (en v)).bind fun bt231 => (if (bt231.2.length : Int) > 0 then (poly_Decode.j2 k (en xs) (en ys) (w : Int) bt231.1 [] true) else ((poly_Degree.f k bt231.1).bind fun t237 => (poly_Decode.j2 k (en xs) (en ys) (w : Int) bt231.1 [] (decide (t237 > (d : Int))))))) := by
  have lb := trim_len tb
  have lv := trim_len tv
  obtain ⟨q, r, hq, he, hrv, hqb, hrb⟩ := divide_ev b v (by omega) (by omega) hv1
  have lost : ∀ x8 : List Int, Ev (fun k => poly_Decode.j2 k (en xs) (en ys) (w : Int) x8 [] true) ([], [], 17) := fun x8 => by
    refine Ev.succ ?_
    simp only [poly_Decode.j2]
    exact Ev.ifp (by trivial) (Ev.now _)
  have uniq : ∀ W, sz W ≤ d + 1 → (missedN W xs ys xs.length).length ≤ w → trim W = trim q ∧ sz r = 0 := fun W h1 h2 => by
    have h := decode_pure hn d w hr hb hv1 hv hev h1 h2
    have u := div_unique hv1 hrv (r' := []) (by simp [sz, trim]; exact Nat.pos_of_ne_zero hv1) (he.symm.trans h)
    exact ⟨u.1.symm, by unfold sz; rw [u.2]; rfl⟩
  by_cases h0 : sz r = 0
  · have hdg := degree_ev (trim q) (by rw [length_trim]; omega)
    rw [sz_trim] at hdg
    by_cases h1 : d + 1 < sz q
    · refine .inr ⟨Ev.bind hq (Ev.ifn (by rw [en_length, length_trim]; omega) (Ev.bind hdg ?_)), fun W hW => ?_⟩
      · rw [decide_eq_true (by omega)]
        exact lost _
      · rcases Nat.lt_or_ge w (missedN W xs ys xs.length).length with h | h
        · exact h
        · have e := congrArg List.length (uniq W hW h).1
          rw [length_trim, length_trim] at e
          omega
    · have hl := decode_last xs ys (trim q) w (by rw [length_trim]; omega) hx hy
      by_cases h2 : w < (missedN (trim q) xs ys xs.length).length
      · rw [if_pos h2] at hl
        refine .inr ⟨Ev.bind hq (Ev.ifn (by rw [en_length, length_trim]; omega) (Ev.bind hdg ?_)), fun W hW => ?_⟩
        · rw [decide_eq_false (by omega)]
          exact hl
        · rcases Nat.lt_or_ge w (missedN W xs ys xs.length).length with h | h
          · exact h
          · exfalso
            have e := (uniq W hW h).1
            have e2 : missedN W xs ys xs.length = missedN (trim q) xs ys xs.length := by
              unfold missedN
              refine congrArg (fun f => List.filter f _) (funext fun i => ?_)
              unfold bad
              rw [← e, eval_trim]
            rw [e2] at h
            omega
      · rw [if_neg h2] at hl
        refine .inl ⟨trim q, Ev.bind hq (Ev.ifn (by rw [en_length, length_trim]; omega) (Ev.bind hdg ?_)), trim_trim q, by rw [length_trim]; omega, by omega, fun W hW h => (uniq W hW h).1⟩
        rw [decide_eq_false (by omega)]
        exact hl
  · refine .inr ⟨Ev.bind hq (Ev.ifp (by rw [en_length, length_trim]; omega) (lost _)), fun W hW => ?_⟩
    rcases Nat.lt_or_ge w (missedN W xs ys xs.length).length with h | h
    · exact h
    · exact absurd (uniq W hW h).2 h0
theorem sz_add_lt' {p q : List G} (h : sz p < sz q) : sz (add p q) = sz q := by
  obtain ⟨m, hm⟩ : ∃ m, sz q = m + 1 := ⟨sz q - 1, by omega⟩
  rw [hm]
  refine sz_eq_of (fun k hk => by rw [coef_add, coef_sz (by omega), coef_sz (by omega), add_zero]) ?_
  rw [coef_add, coef_sz (p := p) (by omega), zero_add]
  have := top_ne (p := q) (by omega)
  rwa [hm] at this
theorem sz_add_lt {p q : List G} (h : sz p < sz q) : sz (add q p) = sz q := by
  rw [sz_congr (q := add p q) (fun k => by rw [coef_add, coef_add, add_comm]), sz_add_lt' h]
theorem decode_loop (xs ys : List G) (hn : xs.Nodup) (d w : Nat) (hx : xs.length ≤ 1000) (hy : xs.length = ys.length) (hr : d + 1 + 2 * w ≤ xs.length) :
    ∀ (m : Nat) (a b u v : List G), sz b ≤ m → trim a = a → trim b = b → trim u = u → trim v = v → sz b < sz a → sz u < sz v → sz v + sz a = xs.length + 2 → 2 * (sz a : Int) - 2 ≥ xs.length + d + 1 →
      (∀ i, i < xs.length → eval a (coef xs i) = eval u (coef xs i) * coef ys i) → (∀ i, i < xs.length → eval b (coef xs i) = eval v (coef xs i) * coef ys i) →
      Dec xs ys d w (fun k => poly_Decode.l0 k (en xs) (en ys) (d : Int) (w : Int) [] (xs.length : Int) (en a) (en b) (en u) (en v)) := by
  intro m
  induction m with
  | zero =>
    intro a b u v hm ta tb tu tv hba huv hva ha ea eb
    have lb := trim_len tb
    have hend := decode_end xs ys b v hn d w hx hy hr (by omega) (by omega) (by omega) tb tv eb
    refine hend.of (fun r h => ?_)
    refine Ev.succ ?_
    simp only [poly_Decode.l0]
    refine Ev.bind (degree_ev b (by omega)) (Ev.ifp ?_ h)
    rw [w64 (x := 2 * _) (by omega) (by omega), w64 (x := (xs.length : Int) + (d : Int)) (by omega) (by omega), w64 (by omega) (by omega)]
    omega
  | succ m ih =>
    intro a b u v hm ta tb tu tv hba huv hva ha ea eb
    have la := trim_len ta
    have lb := trim_len tb
    have lu := trim_len tu
    have lv := trim_len tv
    by_cases hb : 2 * (sz b : Int) - 2 < xs.length + d + 1
    · have hend := decode_end xs ys b v hn d w hx hy hr hb (by omega) (by omega) tb tv eb
      refine hend.of (fun r h => ?_)
      refine Ev.succ ?_
      simp only [poly_Decode.l0]
      refine Ev.bind (degree_ev b (by omega)) (Ev.ifp ?_ h)
      rw [w64 (x := 2 * _) (by omega) (by omega), w64 (x := (xs.length : Int) + (d : Int)) (by omega) (by omega), w64 (by omega) (by omega)]
      omega
    · obtain ⟨q, r, hq, he, hrb, hqa, hra⟩ := divide_ev a b (by omega) (by omega) (by omega)
      have hsq : sz q + sz b = sz a + 1 := by
        have e := sz_congr he
        by_cases h0 : sz q = 0
        · have h1 := sz_mul_zero_left h0 b
          have h2 := sz_add (mul q b) r
          omega
        · have h1 := sz_mul h0 (q := b) (by omega)
          have h2 := sz_add (mul q b) r
          by_cases h3 : sz q + sz b = sz a + 1
          · exact h3
          · have h4 : sz (add (mul q b) r) = sz (mul q b) := by
              have := sz_add_lt (p := r) (q := mul q b) (by omega)
              exact this
            omega
      have hsv : sz (mul (trim q) v) = sz q + sz v - 1 := by
        have := sz_mul (p := trim q) (q := v) (by rw [sz_trim]; omega) (by omega)
        rw [sz_trim] at this
        omega
      have hadd : sz (add u (trim (mul (trim q) v))) = sz q + sz v - 1 := by
        rw [← hsv, ← sz_trim (mul (trim q) v)]
        refine sz_add_lt' ?_
        rw [sz_trim]
        omega
      have hp := product_ev (trim q) v (by rw [length_trim]; omega) (by omega)
      have hs := sum_ev u (trim (mul (trim q) v)) (by omega) (by rw [length_trim]; omega)
      have hd := ih b (trim r) v (trim (add u (trim (mul (trim q) v)))) (by rw [sz_trim]; omega) tb (trim_trim r) tv (trim_trim _) (by rw [sz_trim]; omega) (by rw [sz_trim]; omega) (by rw [sz_trim]; omega) (by omega) eb (fun i hi => by
        have h1 := eval_congr he (coef xs i)
        rw [eval_add, eval_mul, ea i hi, eb i hi] at h1
        rw [eval_trim, eval_trim, eval_add, eval_trim, eval_mul, eval_trim, add_mul, h1, mul_assoc, add_assoc, add_comm (eval r _), add_self_left])
      refine hd.of (fun R h => ?_)
      refine Ev.succ ?_
      simp only [poly_Decode.l0]
      refine Ev.bind (degree_ev b (by omega)) (Ev.ifn ?_ ?_)
      · rw [w64 (x := 2 * _) (by omega) (by omega), w64 (x := (xs.length : Int) + (d : Int)) (by omega) (by omega), w64 (by omega) (by omega)]
        omega
      · exact Ev.bind hq (Ev.bind hp (Ev.bind hs h))
end Go.Proofs.YtldfcpmapbofgaaDoor.Br
