/- The printed functions of the specification of the field and of polynomials compute the same. -/
import Derived.Test.YtldfcpmapbofgaaDoorBr4
import Derived.Test.YtldfcpmapbofgaaDoorM7
import Derived.Test.YtldfcpmapbofgaaDoorM9
namespace Go.Proofs.YtldfcpmapbofgaaDoor.Br
open Go.RowKit Go.Proofs.YtldfcpmapbofgaaDoorW.PrintWords Go.Proofs.YtldfcpmapbofgaaDoorW.PrintMore Go.Proofs.YtldfcpmapbofgaaDoor.M Go.Proofs.QGf

theorem xor64 {s x : Nat} (hs : s < 256) (hx : x < 256) : Go.bits .xor .i64 (s : Int) (x : Int) = ((s ^^^ x : Nat) : Int) := by
  have hb := xor_lt hs hx
  show IntKind.i64.wrap (((BitVec.ofInt 64 (s : Int) ^^^ BitVec.ofInt 64 (x : Int)).toNat : Nat) : Int) = _
  have e : (BitVec.ofInt 64 (s : Int) ^^^ BitVec.ofInt 64 (x : Int)).toNat = s ^^^ x := by
    rw [BitVec.toNat_xor, BitVec.ofInt_natCast, BitVec.ofInt_natCast, BitVec.toNat_ofNat, BitVec.toNat_ofNat, Nat.mod_eq_of_lt (by omega), Nat.mod_eq_of_lt (by omega)]
  rw [e, IntKind.wrap_i64]
  omega
theorem mulN_zero : ∀ (n a : Nat), mulN n a 0 = 0
  | 0, _ => rfl
  | n + 1, a => by unfold mulN; rw [Nat.zero_div, mulN_zero n]; simp
theorem dbl (x : Nat) (h : x < 256) : (255 < wrap64 (2 * (x : Int)) → Go.bits .xor .i64 (wrap64 (2 * (x : Int))) 285 = ((xt x : Nat) : Int)) ∧ (¬ 255 < wrap64 (2 * (x : Int)) → wrap64 (2 * (x : Int)) = ((xt x : Nat) : Int)) :=
  (by decide +kernel : ∀ x : Fin 256, (255 < wrap64 (2 * (x.1 : Int)) → Go.bits .xor .i64 (wrap64 (2 * (x.1 : Int))) 285 = ((xt x.1 : Nat) : Int)) ∧ (¬ 255 < wrap64 (2 * (x.1 : Int)) → wrap64 (2 * (x.1 : Int)) = ((xt x.1 : Nat) : Int))) ⟨x, h⟩
theorem rmul_loop : ∀ (d x y s : Nat), x < 256 → y < 2 ^ d → d ≤ 8 → s < 256 → Ev (fun k => quietusref04_Mul.l0 k (x : Int) (y : Int) (s : Int)) ((s ^^^ mulN d x y : Nat) : Int) := by
  intro d
  induction d with
  | zero =>
    intro x y s hx hy hd hs
    have : y = 0 := by omega
    subst this
    refine Ev.succ ?_
    simp only [quietusref04_Mul.l0]
    refine Ev.ifn (by omega) ?_
    rw [show ((s : Int) % 256) = ((s ^^^ mulN 0 x 0 : Nat) : Int) from by rw [mulN_zero, Nat.xor_zero]; omega]
    exact Ev.now _
  | succ d ih =>
    intro x y s hx hy hd hs
    refine Ev.succ ?_
    simp only [quietusref04_Mul.l0]
    by_cases h0 : y = 0
    · subst h0
      refine Ev.ifn (by omega) ?_
      rw [show ((s : Int) % 256) = ((s ^^^ mulN (d + 1) x 0 : Nat) : Int) from by rw [mulN_zero, Nat.xor_zero]; omega]
      exact Ev.now _
    · have hy2 : y < 512 := Nat.lt_of_lt_of_le hy (Nat.le_trans (Nat.pow_le_pow_right (by decide) (by omega : d + 1 ≤ 9)) (by decide))
      have hm : Int.tmod (y : Int) 2 = ((y % 2 : Nat) : Int) := rfl
      have hdv : wrap64 (Int.tdiv (y : Int) 2) = ((y / 2 : Nat) : Int) := by
        have : Int.tdiv (y : Int) 2 = ((y / 2 : Nat) : Int) := rfl
        rw [this, w64 (by omega) (by omega)]
      have hxt := xt_lt hx
      have hlt : y / 2 < 2 ^ d := by rw [Nat.pow_succ] at hy; omega
      rw [hm, hdv]
      refine Ev.ifp (by omega) ?_
      by_cases h1 : y % 2 = 1
      · refine Ev.ifp (by omega) ?_
        rw [xor64 hs hx]
        have e : s ^^^ mulN (d + 1) x y = (s ^^^ x) ^^^ mulN d (xt x) (y / 2) := by
          rw [show mulN (d + 1) x y = (if y % 2 = 1 then x else 0) ^^^ mulN d (xt x) (y / 2) from rfl, if_pos h1, Nat.xor_assoc]
        rw [e]
        have g := ih (xt x) (y / 2) (s ^^^ x) hxt hlt (by omega) (xor_lt hs hx)
        by_cases h2 : 255 < wrap64 (2 * (x : Int))
        · refine Ev.ifp h2 ?_
          rw [(dbl x hx).1 h2]
          exact g
        · refine Ev.ifn h2 ?_
          rw [(dbl x hx).2 h2]
          exact g
      · refine Ev.ifn (by omega) ?_
        have e : s ^^^ mulN (d + 1) x y = s ^^^ mulN d (xt x) (y / 2) := by
          rw [show mulN (d + 1) x y = (if y % 2 = 1 then x else 0) ^^^ mulN d (xt x) (y / 2) from rfl, if_neg h1, Nat.zero_xor]
        rw [e]
        have g := ih (xt x) (y / 2) s hxt hlt (by omega) hs
        by_cases h2 : 255 < wrap64 (2 * (x : Int))
        · refine Ev.ifp h2 ?_
          rw [(dbl x hx).1 h2]
          exact g
        · refine Ev.ifn h2 ?_
          rw [(dbl x hx).2 h2]
          exact g
theorem rmul_ev (a b : G) : Ev (fun k => quietusref04_Mul.f k (a.n : Int) (b.n : Int)) ((a * b).n : Int) := by
  have ha := a.lt
  have hb := b.lt
  have h := rmul_loop 8 a.n b.n 0 ha hb (Nat.le_refl _) (by decide)
  rw [Nat.zero_xor, ← mul_n] at h
  unfold quietusref04_Mul.f
  rw [w64 (by omega) (by omega), w64 (by omega) (by omega)]
  exact h
theorem inv_zero : inv 0 = 0 := by decide
theorem rinv_ev (a : G) : Ev (fun k => quietusref04_Inv.f k (a.n : Int)) ((inv a).n : Int) := by
  have key : ∀ (d b : Nat), 256 - b = d → 1 ≤ b → b ≤ 256 → (∀ c : G, c.n < b → a * c ≠ 1) → Ev (fun k => quietusref04_Inv.l0 k (a.n : Int) (b : Int)) ((inv a).n : Int) := by
    intro d
    induction d with
    | zero =>
      intro b hd h1 hb h
      refine Ev.succ ?_
      simp only [quietusref04_Inv.l0]
      refine Ev.ifn (by omega) ?_
      have : a = 0 := by
        by_cases h0 : a = 0
        · exact h0
        · exact absurd (mul_inv h0) (h _ (by have := (inv a).lt; omega))
      subst this
      rw [inv_zero]
      exact Ev.now _
    | succ d ih =>
      intro b hd h1 hb h
      refine Ev.succ ?_
      simp only [quietusref04_Inv.l0]
      refine Ev.ifp (by omega) ?_
      have hbn : (b : Int) % 256 = ((ofN b).n : Int) := by rw [ofN_n (by omega)]; omega
      rw [hbn]
      refine Ev.bind (rmul_ev _ _) ?_
      by_cases e : a * ofN b = 1
      · refine Ev.ifp (by rw [e]; rfl) ?_
        have h0 : a ≠ 0 := fun h => by rw [h, zero_mul] at e; exact one_ne e.symm
        rw [show inv a = ofN b from mul_left_cancel h0 (by rw [mul_inv h0, e])]
        exact Ev.now _
      · refine Ev.ifn (fun h => e (G.ext (by rw [one_n]; omega))) ?_
        rw [w64 (by omega) (by omega), show (b : Int) + 1 = ((b + 1 : Nat) : Int) from by omega]
        refine ih (b + 1) (by omega) (by omega) (by omega) (fun c hc => ?_)
        by_cases hcb : c.n = b
        · rw [show c = ofN b from by rw [← hcb, ofN_of]]; exact e
        · exact h c (by omega)
  exact key 255 1 rfl (Nat.le_refl _) (by decide) (fun c hc => by
    rw [show c = 0 from G.ext (by rw [zero_n]; omega), mul_zero]
    exact fun h => one_ne h.symm)

theorem eval_snoc : ∀ (p : List G) (c x : G), eval (p ++ [c]) x = eval p x + pow x p.length * c
  | [], c, x => by simp [pow]
  | a :: p, c, x => by
    rw [List.cons_append, eval_cons, eval_cons, eval_snoc p c x, mul_add, List.length_cons, pow_add, show pow x 1 = x from by simp [pow]]
    rw [add_assoc, mul_comm (pow x p.length) x, mul_assoc]
theorem reval_ev (p : List G) (x : G) (hp : p.length ≤ 1000000000) : Ev (fun k => quietusref06_Eval.f k (en p) (x.n : Int)) ((eval p x).n : Int) := by
  have key : ∀ (d j : Nat), p.length - j = d → j ≤ p.length → Ev (fun k => quietusref06_Eval.l0 k (en p) (x.n : Int) ((eval (p.take j) x).n : Int) ((pow x j).n : Int) (j : Int)) ((eval p x).n : Int) := by
    intro d
    induction d with
    | zero =>
      intro j hd hj
      refine Ev.succ ?_
      simp only [quietusref06_Eval.l0]
      refine Ev.ifn (by rw [en_length]; omega) ?_
      rw [List.take_of_length_le (by omega)]
      exact Ev.now _
    | succ d ih =>
      intro j hd hj
      refine Ev.succ ?_
      simp only [quietusref06_Eval.l0]
      refine Ev.ifp (by rw [en_length]; omega) (Ev.ifp (by omega) ?_)
      rw [rd_en', w64 (by omega) (by omega), show (j : Int) + 1 = ((j + 1 : Nat) : Int) from by omega]
      refine Ev.bind (rmul_ev _ _) (Ev.bind (rmul_ev _ _) ?_)
      rw [xor_n, show pow x j * x = pow x (j + 1) from by rw [pow_add]; simp [pow]]
      have e : eval (p.take j) x + coef p j * pow x j = eval (p.take (j + 1)) x := by
        rw [List.take_succ_eq_append_getElem (by omega : j < p.length), eval_snoc, List.length_take, Nat.min_eq_left (by omega), coef_lt (by omega : j < p.length), mul_comm]
      rw [e]
      exact ih (j + 1) (by omega) (by omega)
  have h := key p.length 0 rfl (Nat.zero_le _)
  unfold quietusref06_Eval.f
  exact h
theorem sz_snoc (p : List G) (c : G) : sz (p ++ [c]) = if c = 0 then sz p else p.length + 1 := by
  split
  · rename_i h
    exact sz_congr fun m => by
      rw [coef_append]
      split
      · rfl
      · rw [coef_ge (p := p) (by omega)]
        rcases Nat.eq_zero_or_pos (m - p.length) with e | e
        · rw [e, coef_cons_zero, h]
        · exact coef_ge (by simp; omega)
  · rename_i h
    exact sz_eq_of (fun k hk => coef_ge (by simp; omega)) (by rw [coef_append, if_neg (by omega), Nat.sub_self]; exact h)
theorem rdegree_ev (p : List G) (hp : p.length ≤ 1000000000) : Ev (fun k => quietusref06_Degree.f k (en p)) ((sz p : Int) - 1) := by
  have key : ∀ (d j : Nat), p.length - j = d → j ≤ p.length → Ev (fun k => quietusref06_Degree.l0 k (en p) ((sz (p.take j) : Int) - 1) (j : Int)) ((sz p : Int) - 1) := by
    intro d
    induction d with
    | zero =>
      intro j hd hj
      refine Ev.succ ?_
      simp only [quietusref06_Degree.l0]
      refine Ev.ifn (by rw [en_length]; omega) ?_
      rw [List.take_of_length_le (by omega)]
      exact Ev.now _
    | succ d ih =>
      intro j hd hj
      have e := sz_snoc (p.take j) (p[j]'(by omega))
      rw [← List.take_succ_eq_append_getElem (by omega : j < p.length), List.length_take, Nat.min_eq_left (by omega), ← coef_lt] at e
      have g := ih (j + 1) (by omega) (by omega)
      refine Ev.succ ?_
      simp only [quietusref06_Degree.l0]
      refine Ev.ifp (by rw [en_length]; omega) (Ev.ifp (by omega) ?_)
      rw [rd_en', w64 (by omega) (by omega), show (j : Int) + 1 = ((j + 1 : Nat) : Int) from by omega]
      by_cases h0 : coef p j = 0
      · rw [if_pos h0] at e
        rw [e] at g
        exact Ev.ifp (n_zero.2 h0) g
      · rw [if_neg h0] at e
        rw [e, show ((j + 1 : Nat) : Int) - 1 = (j : Int) from by omega] at g
        exact Ev.ifn (fun h => h0 (n_zero.1 h)) g
  have h := key p.length 0 rfl (Nat.zero_le _)
  unfold quietusref06_Degree.f
  exact h
theorem rtrim_ev (p : List G) (hp : p.length ≤ 1000000000) : Ev (fun k => quietusref06_Trim.f k (en p)) (en (trim p)) := by
  have hs := sz_le_length p
  have key : ∀ (d j : Nat), sz p - j = d → j ≤ sz p → Ev (fun k => quietusref06_Trim.l0 k (en p) (en (p.take j)) ((sz p : Int) - 1) (j : Int)) (en (trim p)) := by
    intro d
    induction d with
    | zero =>
      intro j hd hj
      refine Ev.succ ?_
      simp only [quietusref06_Trim.l0]
      refine Ev.ifn (by omega) ?_
      rw [trim_take, show j = sz p from by omega]
      exact Ev.now _
    | succ d ih =>
      intro j hd hj
      refine Ev.succ ?_
      simp only [quietusref06_Trim.l0]
      refine Ev.ifp (by omega) (Ev.ifp (by omega) (Ev.ifp (by rw [en_length]; omega) (Ev.ifp (by rw [en_length, List.length_take]; omega) ?_)))
      rw [rd_en', w64 (by omega) (by omega), show (j : Int) + 1 = ((j + 1 : Nat) : Int) from by omega]
      have e : en (p.take j) ++ [((coef p j).n : Int)] = en (p.take (j + 1)) := by
        rw [List.take_succ_eq_append_getElem (by omega : j < p.length), en_append, coef_lt (by omega : j < p.length)]; rfl
      rw [e]
      exact ih (j + 1) (by omega) (by omega)
  unfold quietusref06_Trim.f
  exact Ev.bind (rdegree_ev p hp) (key (sz p) 0 rfl (Nat.zero_le _))
theorem radd_ev (p q : List G) (hp : p.length ≤ 100000000) (hq : q.length ≤ 100000000) : Ev (fun k => quietusref06_Add.f k (en p) (en q)) (en (trim (add p q))) := by
  have two : ∀ (d j : Nat) (o : List G), q.length - j = d → j ≤ q.length → o.length = max p.length q.length → (∀ m, coef o m = coef p m + coef (q.take j) m) → Ev (fun k => quietusref06_Add.l1 k (en q) (en o) (j : Int)) (en (trim (add p q))) := by
    intro d
    induction d with
    | zero =>
      intro j o hd hj ho hc
      refine Ev.succ ?_
      simp only [quietusref06_Add.l1]
      refine Ev.ifn (by rw [en_length]; omega) ?_
      rw [List.take_of_length_le (by omega)] at hc
      refine Ev.bind (rtrim_ev o (by omega)) ?_
      rw [trim_congr (q := add p q) (fun m => by rw [hc, coef_add])]
      exact Ev.now _
    | succ d ih =>
      intro j o hd hj ho hc
      refine Ev.succ ?_
      simp only [quietusref06_Add.l1]
      refine Ev.ifp (by rw [en_length]; omega) (Ev.ifp (by omega) (Ev.ifp (by rw [en_length]; omega) ?_))
      rw [rd_en', rd_en', xor_n, Int.toNat_natCast, en_set, w64 (by omega) (by omega), show (j : Int) + 1 = ((j + 1 : Nat) : Int) from by omega]
      refine ih (j + 1) _ (by omega) (by omega) (by simpa using ho) (fun m => ?_)
      rw [coef_set _ _ _ _ (by omega), List.take_succ_eq_append_getElem (by omega : j < q.length), coef_append, List.length_take, Nat.min_eq_left (by omega)]
      by_cases e : m = j
      · subst e
        rw [if_pos rfl, if_neg (by omega), hc, coef_ge (p := q.take m) (by rw [List.length_take]; omega), coef_lt (by omega : m < q.length)]; simp
      · rw [if_neg e, hc]
        split
        · rfl
        · rw [coef_ge (p := q.take j) (by rw [List.length_take]; omega), coef_ge (p := [_]) (by simp; omega)]
  have one : ∀ (d j : Nat) (o : List G), p.length - j = d → j ≤ p.length → o.length = max p.length q.length → (∀ m, coef o m = coef (p.take j) m) → Ev (fun k => quietusref06_Add.l0 k (en p) (en q) (en o) (j : Int)) (en (trim (add p q))) := by
    intro d
    induction d with
    | zero =>
      intro j o hd hj ho hc
      refine Ev.succ ?_
      simp only [quietusref06_Add.l0]
      refine Ev.ifn (by rw [en_length]; omega) ?_
      rw [List.take_of_length_le (by omega)] at hc
      exact two q.length 0 o rfl (Nat.zero_le _) ho (fun m => by rw [hc]; simp)
    | succ d ih =>
      intro j o hd hj ho hc
      refine Ev.succ ?_
      simp only [quietusref06_Add.l0]
      refine Ev.ifp (by rw [en_length]; omega) (Ev.ifp (by omega) (Ev.ifp (by rw [en_length]; omega) ?_))
      rw [rd_en', rd_en', xor_n, Int.toNat_natCast, en_set, w64 (by omega) (by omega), show (j : Int) + 1 = ((j + 1 : Nat) : Int) from by omega]
      refine ih (j + 1) _ (by omega) (by omega) (by simpa using ho) (fun m => ?_)
      rw [coef_set _ _ _ _ (by omega), List.take_succ_eq_append_getElem (by omega : j < p.length), coef_append, List.length_take, Nat.min_eq_left (by omega)]
      by_cases e : m = j
      · subst e
        rw [if_pos rfl, if_neg (by omega), hc, coef_ge (p := p.take m) (by rw [List.length_take]; omega), coef_lt (by omega : m < p.length)]; simp
      · rw [if_neg e, hc]
        split
        · rfl
        · rw [coef_ge (p := p.take j) (by rw [List.length_take]; omega), coef_ge (p := [_]) (by simp; omega)]
  have hm : mx ((en p).length : Int) ((en q).length : Int) = ((max p.length q.length : Nat) : Int) := by
    rw [en_length, en_length]; unfold mx; split <;> omega
  unfold quietusref06_Add.f
  rw [hm, Int.toNat_natCast, en_zeros]
  refine Ev.ifp (by omega) (Ev.ifp (by omega) ?_)
  exact one p.length 0 _ rfl (Nat.zero_le _) (by simp) (fun m => by rw [coef_zeros]; simp)
theorem rproduct_ev (p q : List G) (hp : p.length ≤ 100000000) (hq : q.length ≤ 100000000) : Ev (fun k => quietusref06_Product.f k (en p) (en q)) (en (trim (mul p q))) := by
  have inner : ∀ (d j i : Nat) (c : G) (o : List G) (r : List Int), c = coef p i → q.length - j = d → j ≤ q.length → i < p.length → o.length = p.length + q.length →
      (∀ o' : List G, o'.length = o.length → (∀ m, coef o' m = coef o m + (if i + j ≤ m then c * coef q (m - i) else 0)) → Ev (fun k => quietusref06_Product.l0 k (en p) (en q) (en o') ((i : Int) + 1)) r) →
      Ev (fun k => quietusref06_Product.l1 k (en p) (en q) (en o) (i : Int) (j : Int)) r := by
    intro d
    induction d with
    | zero =>
      intro j i c o r hci hd hj hi ho h
      refine Ev.succ ?_
      simp only [quietusref06_Product.l1]
      refine Ev.ifn (by rw [en_length]; omega) ?_
      rw [w64 (by omega) (by omega)]
      refine h o rfl (fun m => ?_)
      split
      · rw [coef_ge (p := q) (by omega)]; simp
      · simp
    | succ d ih =>
      intro j i c o r hci hd hj hi ho h
      refine Ev.succ ?_
      simp only [quietusref06_Product.l1]
      have hs : wrap64 ((i : Int) + (j : Int)) = ((i + j : Nat) : Int) := by rw [w64 (by omega) (by omega)]; omega
      rw [hs]
      refine Ev.ifp (by rw [en_length]; omega) (Ev.ifp (by omega) (Ev.ifp (by rw [en_length]; omega) (Ev.ifp (by omega) (Ev.ifp (by rw [en_length]; omega) (Ev.ifp (by omega) ?_)))))
      rw [rd_en', rd_en', rd_en', ← hci]
      refine Ev.bind (rmul_ev _ _) ?_
      rw [xor_n, Int.toNat_natCast, en_set, w64 (by omega) (by omega), show (j : Int) + 1 = ((j + 1 : Nat) : Int) from by omega]
      refine ih (j + 1) i c _ r hci (by omega) (by omega) hi (by simpa using ho) (fun o' hl' hc' => ?_)
      refine h o' (by simpa using hl') (fun m => ?_)
      rw [hc', coef_set _ _ _ _ (by omega)]
      by_cases e : m = i + j
      · subst e
        rw [if_pos rfl, if_neg (by omega), if_pos (Nat.le_refl _), Nat.add_sub_cancel_left]
        simp
      · rw [if_neg e]
        by_cases hm : i + j ≤ m
        · rw [if_pos hm, if_pos (by omega)]
        · rw [if_neg hm, if_neg (by omega)]
  have outer : ∀ (d i : Nat) (o : List G), p.length - i = d → i ≤ p.length → o.length = p.length + q.length → (∀ m, coef o m = coef (mul (p.take i) q) m) →
      Ev (fun k => quietusref06_Product.l0 k (en p) (en q) (en o) (i : Int)) (en (trim (mul p q))) := by
    intro d
    induction d with
    | zero =>
      intro i o hd hi ho hc
      refine Ev.succ ?_
      simp only [quietusref06_Product.l0]
      refine Ev.ifn (by rw [en_length]; omega) ?_
      rw [List.take_of_length_le (by omega)] at hc
      refine Ev.bind (rtrim_ev o (by omega)) ?_
      rw [trim_congr hc]
      exact Ev.now _
    | succ d ih =>
      intro i o hd hi ho hc
      refine Ev.succ ?_
      simp only [quietusref06_Product.l0]
      refine Ev.ifp (by rw [en_length]; omega) ?_
      refine inner q.length 0 i _ o _ rfl (by omega) (Nat.zero_le _) (by omega) ho (fun o' hl' hc' => ?_)
      rw [show (i : Int) + 1 = ((i + 1 : Nat) : Int) from by omega]
      refine ih (i + 1) o' (by omega) (by omega) (by omega) (fun m => ?_)
      rw [hc', hc, List.take_succ_eq_append_getElem (by omega : i < p.length), coef_mul_snoc, List.length_take, Nat.min_eq_left (by omega), coef_lt (by omega : i < p.length), Nat.add_zero]
  unfold quietusref06_Product.f
  have hs : wrap64 (((en p).length : Int) + ((en q).length : Int)) = ((p.length + q.length : Nat) : Int) := by rw [en_length, en_length, w64 (by omega) (by omega)]; omega
  rw [hs, Int.toNat_natCast, en_zeros]
  refine Ev.ifp (by omega) (Ev.ifp (by omega) ?_)
  exact outer p.length 0 _ (by omega) (Nat.zero_le _) (by simp) (fun m => by rw [coef_zeros]; simp)
end Go.Proofs.YtldfcpmapbofgaaDoor.Br
