/- The printed functions of polynomials compute value, degree, trimmed list, product and sum. -/
import Derived.Test.YtldfcpmapbofgaaDoorBr1
import Derived.Test.YtldfcpmapbofgaaDoorM2
namespace Go.Proofs.YtldfcpmapbofgaaDoor.Br
open Go.RowKit Go.Proofs.YtldfcpmapbofgaaDoorW.PrintWords Go.Proofs.YtldfcpmapbofgaaDoorW.PrintMore Go.Proofs.YtldfcpmapbofgaaDoor.M Go.Proofs.QGf

/-- A polynomial as the program holds it. -/
def en (p : List G) : List Int := p.map fun g => (g.n : Int)
@[simp] theorem en_nil : en [] = [] := rfl
@[simp] theorem en_cons (a : G) (p : List G) : en (a :: p) = (a.n : Int) :: en p := rfl
@[simp] theorem en_length (p : List G) : (en p).length = p.length := by simp [en]
theorem en_append (p q : List G) : en (p ++ q) = en p ++ en q := by simp [en]
theorem en_take (p : List G) (n : Nat) : (en p).take n = en (p.take n) := by simp [en]
theorem en_inj {p q : List G} (h : en p = en q) : p = q := by
  induction p generalizing q with
  | nil => cases q with
    | nil => rfl
    | cons b q => simp at h
  | cons a p ih => cases q with
    | nil => simp at h
    | cons b q =>
      simp only [en_cons, List.cons.injEq] at h
      rw [G.ext (by omega : a.n = b.n), ih h.2]
theorem rd_en (p : List G) (i : Int) : rd (en p) i = ((coef p i.toNat).n : Int) := by
  unfold rd
  rcases Nat.lt_or_ge i.toNat p.length with h | h
  · rw [coef_lt h, List.getD_eq_getElem?_getD, en, List.getElem?_map, List.getElem?_eq_getElem h]; rfl
  · rw [coef_ge h, List.getD_eq_getElem?_getD, en, List.getElem?_map, List.getElem?_eq_none h]; rfl
theorem rd_en' (p : List G) (i : Nat) : rd (en p) (i : Int) = ((coef p i).n : Int) := by rw [rd_en, Int.toNat_natCast]
theorem en_set (p : List G) (i : Nat) (g : G) : (en p).set i (g.n : Int) = en (p.set i g) := by
  unfold en; rw [List.map_set]
theorem en_zeros (n : Nat) : List.replicate n (0 : Int) = en (List.replicate n 0) := by simp [en]
/-- Bytes are a polynomial. -/
theorem de {l : List Int} (h : ∀ x ∈ l, (Lit.int .u8 x).wf = true) : ∃ p : List G, l = en p := by
  induction l with
  | nil => exact ⟨[], rfl⟩
  | cons x l ih =>
    obtain ⟨p, hp⟩ := ih (fun y hy => h y (List.mem_cons_of_mem _ hy))
    have hx := h x (List.mem_cons_self ..)
    have h2 : 0 ≤ x ∧ x < 256 := by
      have := hx
      simp [Lit.wf, show IntKind.u8.min = 0 from by decide, show IntKind.u8.max = 255 from by decide] at this
      omega
    exact ⟨⟨x.toNat, by omega⟩ :: p, by rw [hp, en_cons]; congr 1; simp; omega⟩
theorem de1 {x : Int} (h : (Lit.int .u8 x).wf = true) : ∃ g : G, x = (g.n : Int) := by
  obtain ⟨p, hp⟩ := de (l := [x]) (by simpa using h)
  cases p with
  | nil => simp at hp
  | cons a p => exact ⟨a, by simpa using (List.cons.inj hp).1⟩
theorem n_zero {a : G} : (a.n : Int) = 0 ↔ a = 0 := ⟨fun h => G.ext (by rw [zero_n]; omega), fun h => by rw [h]; rfl⟩
theorem n_inj {a b : G} : (a.n : Int) = (b.n : Int) ↔ a = b := ⟨fun h => G.ext (by omega), fun h => by rw [h]⟩

theorem coef_set (p : List G) (i : Nat) (g : G) (m : Nat) (h : i < p.length) : coef (p.set i g) m = if m = i then g else coef p m := by
  unfold coef
  rw [List.getD_eq_getElem?_getD, List.getD_eq_getElem?_getD, List.getElem?_set]
  by_cases e : i = m
  · subst e; simp [h]
  · rw [if_neg e, if_neg (fun h => e h.symm)]
theorem coef_zeros (n m : Nat) : coef (List.replicate n 0) m = 0 := by
  rcases Nat.lt_or_ge m n with h | h
  · rw [coef_lt (by simpa using h)]; simp
  · exact coef_ge (by simpa using h)
theorem coef_append (p q : List G) (m : Nat) : coef (p ++ q) m = if m < p.length then coef p m else coef q (m - p.length) := by
  unfold coef
  simp only [List.getD_eq_getElem?_getD]
  split
  · rename_i h; rw [List.getElem?_append_left h]
  · rename_i h; rw [List.getElem?_append_right (by omega)]
theorem trim_take : ∀ (p : List G), trim p = p.take (sz p)
  | [] => rfl
  | c :: p => by
    have ih := trim_take p
    unfold sz
    unfold trim
    split
    · rfl
    · rw [List.length_cons, List.take_succ_cons]; exact congrArg _ ih
theorem length_trim (p : List G) : (trim p).length = sz p := rfl

/-- The value. -/
theorem eval_ev (p : List G) (x : G) (hp : p.length ≤ 1000000000) : Ev (fun k => poly_Eval.f k (en p) (x.n : Int)) ((eval p x).n : Int) := by
  have key : ∀ j : Nat, j ≤ p.length → Ev (fun k => poly_Eval.l0 k (en p) (x.n : Int) ((eval (p.drop j) x).n : Int) ((j : Int) - 1)) ((eval p x).n : Int) := by
    intro j
    induction j with
    | zero =>
      intro _
      refine Ev.succ ?_
      simp only [poly_Eval.l0]
      exact Ev.ifn (by omega) (by rw [List.drop_zero]; exact Ev.now _)
    | succ j ih =>
      intro hj
      refine Ev.succ ?_
      simp only [poly_Eval.l0]
      refine Ev.ifp (by omega) (Ev.bind (mul_ev _ x) (Ev.ifp (by omega) (Ev.ifp (by simp only [en_length]; omega) ?_)))
      have hd : p.drop j = p[j] :: p.drop (j + 1) := List.drop_eq_getElem_cons (by omega)
      rw [show ((j + 1 : Nat) : Int) - 1 = (j : Int) from by omega, w64 (by omega) (by omega), rd_en', xor_n]
      have e : eval (p.drop (j + 1)) x * x + coef p j = eval (p.drop j) x := by
        rw [hd, eval_cons, coef_lt (by omega : j < p.length), QGf.add_comm, QGf.mul_comm]
      rw [e]
      exact ih (by omega)
  have h := key p.length (Nat.le_refl _)
  unfold poly_Eval.f
  rw [List.drop_length] at h
  rw [en_length, w64 (by omega) (by omega)]
  exact h
/-- The degree. -/
theorem degree_ev (p : List G) (hp : p.length ≤ 1000000000) : Ev (fun k => poly_Degree.f k (en p)) ((sz p : Int) - 1) := by
  have key : ∀ j : Nat, j ≤ p.length → sz p ≤ j → Ev (fun k => poly_Degree.l0 k (en p) ((j : Int) - 1)) ((sz p : Int) - 1) := by
    intro j
    induction j with
    | zero =>
      intro _ h0
      refine Ev.succ ?_
      simp only [poly_Degree.l0]
      refine Ev.ifn (by omega) ?_
      rw [show sz p = 0 from by omega]
      exact Ev.now _
    | succ j ih =>
      intro hj hs
      refine Ev.succ ?_
      simp only [poly_Degree.l0]
      refine Ev.ifp (by omega) (Ev.ifp (by omega) (Ev.ifp (by simp only [en_length]; omega) ?_))
      rw [show ((j + 1 : Nat) : Int) - 1 = (j : Int) from by omega, w64 (by omega) (by omega), rd_en']
      by_cases h0 : coef p j = 0
      · refine Ev.ifp (n_zero.2 h0) (ih (by omega) ?_)
        by_cases e : sz p = j + 1
        · have := top_ne (p := p) (by omega)
          rw [e] at this
          exact absurd h0 this
        · omega
      · refine Ev.ifn (fun e => h0 (n_zero.1 e)) ?_
        have : ¬ sz p ≤ j := fun h => h0 (coef_sz h)
        rw [show sz p = j + 1 from by omega]
        rw [show ((j + 1 : Nat) : Int) - 1 = (j : Int) from by omega]
        exact Ev.now _
  have h := key p.length (Nat.le_refl _) (sz_le_length p)
  unfold poly_Degree.f
  rw [en_length, w64 (by omega) (by omega)]
  exact h
/-- Without zeros at the end. -/
theorem trim_ev (p : List G) (hp : p.length ≤ 1000000000) : Ev (fun k => poly_Trim.f k (en p)) (en (trim p)) := by
  have hs := sz_le_length p
  unfold poly_Trim.f
  refine Ev.bind (degree_ev p hp) ?_
  rw [show ((sz p : Int) - 1) + 1 = (sz p : Int) from by omega, w64 (by omega) (by omega)]
  refine Ev.ifp (by omega) (Ev.ifp (by rw [en_length]; omega) ?_)
  refine Ev.bind (Ev.const (o := slices_Clone_uint8_uint8.f _) (r := en (trim p)) ?_) (Ev.now _)
  rw [Int.toNat_natCast, en_take, ← trim_take]
  unfold slices_Clone_uint8_uint8.f
  rw [if_pos]
  rw [en_length, length_trim]; omega

theorem coef_mul_snoc : ∀ (p : List G) (c : G) (q : List G) (m : Nat), coef (mul (p ++ [c]) q) m = coef (mul p q) m + (if p.length ≤ m then c * coef q (m - p.length) else 0)
  | [], c, q, m => by
    cases m with
    | zero => simp [coef_mul_zero]
    | succ m => rw [List.nil_append, coef_mul_cons_left]; simp
  | a :: p, c, q, 0 => by
    rw [List.cons_append, coef_mul_zero, coef_mul_zero, if_neg (by simp)]; simp
  | a :: p, c, q, m + 1 => by
    rw [List.cons_append, coef_mul_cons_left, coef_mul_cons_left, coef_mul_snoc p c q m]
    simp only [List.length_cons, Nat.add_le_add_iff_right, Nat.add_sub_add_right, add_assoc]

/-- The product. -/
theorem product_ev (p q : List G) (hp : p.length ≤ 100000000) (hq : q.length ≤ 100000000) : Ev (fun k => poly_product.f k (en p) (en q)) (en (trim (mul p q))) := by
  have inner : ∀ (d j i : Nat) (c : G) (o : List G) (r : List Int), q.length - j = d → j ≤ q.length → i < p.length → o.length = p.length + q.length →
      (∀ o' : List G, o'.length = o.length → (∀ m, coef o' m = coef o m + (if i + j ≤ m then c * coef q (m - i) else 0)) → Ev (fun k => poly_product.l0 k (en q) (en o') (en p) (p.length : Int) ((i : Int) + 1)) r) →
      Ev (fun k => poly_product.l1 k (en q) (en o) (i : Int) (c.n : Int) (en p) (p.length : Int) (i : Int) (en q) (q.length : Int) (j : Int)) r := by
    intro d
    induction d with
    | zero =>
      intro j i c o r hd hj hi ho h
      refine Ev.succ ?_
      simp only [poly_product.l1]
      refine Ev.ifn (by omega) ?_
      rw [w64 (by omega) (by omega)]
      refine h o rfl (fun m => ?_)
      split
      · rw [coef_ge (p := q) (by omega)]; simp
      · simp
    | succ d ih =>
      intro j i c o r hd hj hi ho h
      refine Ev.succ ?_
      simp only [poly_product.l1]
      have hs : wrap64 ((i : Int) + (j : Int)) = ((i + j : Nat) : Int) := by rw [w64 (by omega) (by omega)]; omega
      rw [hs]
      refine Ev.ifp (by omega) (Ev.ifp (by omega) (Ev.ifp (by rw [en_length]; omega) (Ev.ifp (by omega) (Ev.ifp (by rw [en_length]; omega) ?_))))
      rw [rd_en', rd_en']
      refine Ev.bind (mul_ev _ _) ?_
      rw [xor_n, Int.toNat_natCast, en_set, w64 (by omega) (by omega), show (j : Int) + 1 = ((j + 1 : Nat) : Int) from by omega]
      refine ih (j + 1) i c _ r (by omega) (by omega) hi (by simpa using ho) (fun o' hl' hc' => ?_)
      refine h o' (by simpa using hl') (fun m => ?_)
      rw [hc', coef_set _ _ _ _ (by omega)]
      by_cases e : m = i + j
      · subst e
        rw [if_pos rfl, if_neg (by omega), if_pos (Nat.le_refl _), Nat.add_sub_cancel_left]
        simp
      · rw [if_neg e]
        by_cases hm : i + j ≤ m
        · rw [if_pos hm, if_pos (by omega)]
        · rw [if_neg hm, if_neg (by omega)]
  have outer : ∀ (d i : Nat) (o : List G), p.length - i = d → i ≤ p.length → o.length = p.length + q.length → (∀ m, coef o m = coef (mul (p.take i) q) m) →
      Ev (fun k => poly_product.l0 k (en q) (en o) (en p) (p.length : Int) (i : Int)) (en (trim (mul p q))) := by
    intro d
    induction d with
    | zero =>
      intro i o hd hi ho hc
      refine Ev.succ ?_
      simp only [poly_product.l0]
      refine Ev.ifn (by omega) ?_
      rw [List.take_of_length_le (by omega)] at hc
      refine Ev.bind (trim_ev o (by omega)) ?_
      rw [trim_congr hc]
      exact Ev.now _
    | succ d ih =>
      intro i o hd hi ho hc
      refine Ev.succ ?_
      simp only [poly_product.l0]
      refine Ev.ifp (by omega) (Ev.ifp (by omega) (Ev.ifp (by rw [en_length]; omega) ?_))
      rw [rd_en', en_length]
      refine inner q.length 0 i _ o _ (by omega) (Nat.zero_le _) (by omega) ho (fun o' hl' hc' => ?_)
      rw [show (i : Int) + 1 = ((i + 1 : Nat) : Int) from by omega]
      refine ih (i + 1) o' (by omega) (by omega) (by omega) (fun m => ?_)
      rw [hc', hc, List.take_succ_eq_append_getElem (by omega : i < p.length), coef_mul_snoc, List.length_take, Nat.min_eq_left (by omega), coef_lt (by omega : i < p.length), Nat.add_zero]
  unfold poly_product.f
  have hs : wrap64 (((en p).length : Int) + ((en q).length : Int)) = ((p.length + q.length : Nat) : Int) := by rw [en_length, en_length, w64 (by omega) (by omega)]; omega
  rw [hs, Int.toNat_natCast, en_zeros, en_length]
  refine Ev.ifp (by omega) (Ev.ifp (by omega) ?_)
  exact outer p.length 0 _ (by omega) (Nat.zero_le _) (by simp) (fun m => by rw [coef_zeros]; simp)

/-- The sum of two. -/
theorem sum_ev (p q : List G) (hp : p.length ≤ 100000000) (hq : q.length ≤ 100000000) : Ev (fun k => poly_sum.f k [en p, en q]) (en (trim (add p q))) := by
  have inner : ∀ (l : List G) (i : Nat) (d j : Nat) (o : List G) (r : List Int), l.length ≤ 100000000 → i ≤ 1 → l.length - j = d → j ≤ l.length → j ≤ o.length → o.length ≤ 100000000 →
      (∀ o' : List G, o'.length ≤ 100000000 → (∀ m, coef o' m = coef o m + (if j ≤ m then coef l m else 0)) → Ev (fun k => poly_sum.l0 k (en o') [en p, en q] 2 ((i : Int) + 1)) r) →
      Ev (fun k => poly_sum.l1 k (en o) [en p, en q] 2 (i : Int) (en l) (l.length : Int) (j : Int)) r := by
    intro l i d
    induction d with
    | zero =>
      intro j o r hl hi hd hj hjo ho h
      refine Ev.succ ?_
      simp only [poly_sum.l1]
      refine Ev.ifn (by omega) ?_
      rw [w64 (by omega) (by omega)]
      refine h o ho (fun m => ?_)
      split
      · rw [coef_ge (p := l) (by omega)]; simp
      · simp
    | succ d ih =>
      intro j o r hl hi hd hj hjo ho h
      refine Ev.succ ?_
      simp only [poly_sum.l1]
      refine Ev.ifp (by omega) (Ev.ifp (by omega) (Ev.ifp (by rw [en_length]; omega) ?_))
      rw [w64 (by omega) (by omega), show (j : Int) + 1 = ((j + 1 : Nat) : Int) from by omega, Int.toNat_natCast]
      by_cases e : j = o.length
      · refine Ev.ifp (by rw [en_length]; omega) (Ev.ifp (by rw [en_length]; omega) ?_)
        simp only [Option.bind_some]
        refine Ev.ifp (by simp; omega) ?_
        rw [show en o ++ [0] = en (o ++ [0]) from by rw [en_append]; rfl, rd_en', rd_en', xor_n, en_set]
        refine ih (j + 1) _ r hl hi (by omega) (by omega) (by simp; omega) (by simp; omega) (fun o' hl' hc' => h o' hl' (fun m => ?_))
        rw [hc', coef_set _ _ _ _ (by simp; omega), coef_append, coef_append]
        by_cases em : m = j
        · subst em
          rw [if_pos rfl, if_neg (by omega), if_pos (Nat.le_refl _), if_neg (by omega), coef_ge (p := o) (by omega), e]
          simp
        · rw [if_neg em]
          have h0 : (if m < o.length then coef o m else coef [0] (m - o.length)) = coef o m := by
            split
            · rfl
            · rw [coef_ge (p := o) (by omega), coef_ge (p := [0]) (by simp; omega)]
          rw [h0]
          by_cases hm : j ≤ m
          · rw [if_pos hm, if_pos (by omega)]
          · rw [if_neg hm, if_neg (by omega)]
      · refine Ev.ifn (by rw [en_length]; omega) (Ev.ifp (by rw [en_length]; omega) ?_)
        rw [rd_en', rd_en', xor_n, en_set]
        refine ih (j + 1) _ r hl hi (by omega) (by omega) (by simp; omega) (by simpa using ho) (fun o' hl' hc' => h o' hl' (fun m => ?_))
        rw [hc', coef_set _ _ _ _ (by omega)]
        by_cases em : m = j
        · subst em
          rw [if_pos rfl, if_neg (by omega), if_pos (Nat.le_refl _)]
          simp
        · rw [if_neg em]
          by_cases hm : j ≤ m
          · rw [if_pos hm, if_pos (by omega)]
          · rw [if_neg hm, if_neg (by omega)]
  unfold poly_sum.f
  refine Ev.succ ?_
  simp only [poly_sum.l0]
  refine Ev.ifp (by simp) (Ev.ifp (by simp) (Ev.ifp (by simp) ?_))
  have h0 : rd_L1 [en p, en q] 0 = en p := rfl
  rw [h0, en_length]
  refine inner p 0 p.length 0 [] _ hp (by omega) (by omega) (Nat.zero_le _) (Nat.zero_le _) (by simp) (fun o1 hl1 hc1 => ?_)
  refine Ev.succ ?_
  simp only [poly_sum.l0]
  refine Ev.ifp (by simp) (Ev.ifp (by simp) (Ev.ifp (by simp) ?_))
  have h1 : rd_L1 [en p, en q] ((0 : Nat) + 1 : Int) = en q := rfl
  rw [h1, en_length]
  refine inner q 1 q.length 0 o1 _ hq (by omega) (by omega) (Nat.zero_le _) (Nat.zero_le _) hl1 (fun o2 hl2 hc2 => ?_)
  refine Ev.succ ?_
  simp only [poly_sum.l0]
  refine Ev.ifn (by decide) ?_
  refine Ev.bind (trim_ev o2 (by omega)) ?_
  rw [trim_congr (q := add p q) (fun m => by rw [hc2, hc1, coef_add]; simp)]
  exact Ev.now _
end Go.Proofs.YtldfcpmapbofgaaDoor.Br
