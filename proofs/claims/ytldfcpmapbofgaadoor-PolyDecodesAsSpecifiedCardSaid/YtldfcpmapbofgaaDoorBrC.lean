/- The printed Decode of the specification: it tries all choices of points. -/
import Derived.Test.YtldfcpmapbofgaaDoorBrA
import Derived.Test.YtldfcpmapbofgaaDoorBrB
import Derived.Test.YtldfcpmapbofgaaDoorM15
namespace Go.Proofs.YtldfcpmapbofgaaDoor.Br
open Go.RowKit Go.Proofs.YtldfcpmapbofgaaDoorW.PrintWords Go.Proofs.YtldfcpmapbofgaaDoorW.PrintMore Go.Proofs.YtldfcpmapbofgaaDoor.M Go.Proofs.QGf

/-! Bits of a set. -/
def bitOf (s k : Nat) : Bool := decide (s / 2 ^ k % 2 = 1)
theorem and_one (n : Nat) (h : n < 9223372036854775808) : Go.bits .and .i64 (n : Int) 1 = ((n % 2 : Nat) : Int) := by
  show IntKind.i64.wrap (((BitVec.ofInt 64 (n : Int) &&& BitVec.ofInt 64 ((1 : Nat) : Int)).toNat : Nat) : Int) = _
  rw [BitVec.ofInt_natCast, BitVec.ofInt_natCast, BitVec.toNat_and, BitVec.toNat_ofNat, BitVec.toNat_ofNat, Nat.mod_eq_of_lt (show n < 2 ^ 64 by omega), Nat.mod_eq_of_lt (show 1 < 2 ^ 64 by decide), Nat.and_one_is_mod, IntKind.wrap_i64]
  omega
theorem shr_nat (s k : Nat) (hk : k ≤ 64) : shr .i64 (s : Int) (k : Int) = ((s / 2 ^ k : Nat) : Int) := by
  unfold shr
  rw [Int.toNat_natCast, Nat.min_eq_left (show k ≤ IntKind.i64.bits from hk)]
  have e : ((2 : Int) ^ k) = ((2 ^ k : Nat) : Int) := by rw [Int.natCast_pow]; rfl
  rw [e, Int.ofNat_ediv_ofNat]
theorem bit_eq (s k : Nat) (hs : s < 9223372036854775808) (hk : k ≤ 64) : (Go.bits .and .i64 (shr .i64 (s : Int) (k : Int)) 1 = 1) ↔ bitOf s k = true := by
  have h := Nat.div_le_self s (2 ^ k)
  rw [shr_nat s k hk, and_one _ (by omega)]
  unfold bitOf
  rw [decide_eq_true_iff]
  omega
theorem shl_one (n : Nat) (hn : n ≤ 62) : shl .i64 1 (n : Int) = ((2 ^ n : Nat) : Int) := by
  unfold shl
  have h : 2 ^ n ≤ 2 ^ 62 := Nat.pow_le_pow_right (by decide) hn
  rw [Int.toNat_natCast, Nat.min_eq_left (show n ≤ IntKind.i64.bits from Nat.le_trans hn (by decide))]
  have e : ((2 : Int) ^ n) = ((2 ^ n : Nat) : Int) := by rw [Int.natCast_pow]; rfl
  rw [e, IntKind.wrap_i64]
  obtain ⟨m, hm⟩ : ∃ m, m = 2 ^ n := ⟨_, rfl⟩
  rw [← hm] at h ⊢
  omega
theorem bit_zero {s k : Nat} (h : s < 2 ^ k) : bitOf s k = false := by
  unfold bitOf; rw [Nat.div_eq_of_lt h]; rfl
theorem bit_high {s n : Nat} (h : s < 2 ^ n) : bitOf (s + 2 ^ n) n = true := by
  unfold bitOf
  rw [Nat.add_div_right s (Nat.two_pow_pos n), Nat.div_eq_of_lt h]; rfl
theorem bit_low {s n k : Nat} (h : k < n) : bitOf (s + 2 ^ n) k = bitOf s k := by
  obtain ⟨m, rfl⟩ : ∃ m, n = m + 1 + k := ⟨n - 1 - k, by omega⟩
  unfold bitOf
  rw [Nat.pow_add 2 (m + 1) k, Nat.add_mul_div_right _ _ (Nat.two_pow_pos k), Nat.pow_succ]
  congr 1
  rw [eq_iff_iff]
  omega
/-- The indices in a set. -/
def sel (s n : Nat) : List Nat := (List.range n).filter (bitOf s)
theorem sel_succ (s n : Nat) : sel s (n + 1) = if bitOf s n = true then sel s n ++ [n] else sel s n := by
  unfold sel
  rw [List.range_succ, List.filter_append]
  by_cases h : bitOf s n = true
  · rw [if_pos h, show List.filter (bitOf s) [n] = [n] from by simp [h]]
  · rw [if_neg h, show List.filter (bitOf s) [n] = [] from by simp [h]]; simp
theorem sel_lt {s n i : Nat} (h : i ∈ sel s n) : i < n := by
  unfold sel at h
  rw [List.mem_filter, List.mem_range] at h
  exact h.1
theorem sel_congr {s t : Nat} : ∀ {n : Nat}, (∀ k, k < n → bitOf s k = bitOf t k) → sel s n = sel t n
  | 0, _ => rfl
  | n + 1, h => by rw [sel_succ, sel_succ, h n (by omega), sel_congr (fun k hk => h k (by omega))]
theorem sel_len (s n : Nat) : (sel s n).length ≤ n := by
  have := List.length_filter_le (bitOf s) (List.range n)
  rw [List.length_range] at this
  exact this
/-- Any number of good indices, up to all of them, are the bits of a set. -/
theorem choose (good : Nat → Bool) : ∀ (n m : Nat), m ≤ ((List.range n).filter good).length → ∃ s, s < 2 ^ n ∧ (sel s n).length = m ∧ ∀ i, i ∈ sel s n → good i = true
  | 0, m, h => by
    have : m = 0 := by simpa using h
    subst this
    exact ⟨0, by decide, rfl, fun i hi => absurd hi (by simp [sel])⟩
  | n + 1, m, h => by
    rw [List.range_succ, List.filter_append, List.length_append] at h
    have hp : 2 ^ (n + 1) = 2 ^ n + 2 ^ n := by rw [Nat.pow_succ]; omega
    by_cases hm : m ≤ ((List.range n).filter good).length
    · obtain ⟨s, h1, h2, h3⟩ := choose good n m hm
      have e : sel s (n + 1) = sel s n := by rw [sel_succ, bit_zero h1]; rfl
      exact ⟨s, by omega, by rw [e, h2], fun i hi => h3 i (by rw [← e]; exact hi)⟩
    · have hg : good n = true := by
        by_cases g : good n = true
        · exact g
        · rw [show List.filter good [n] = [] from by simp [g]] at h
          simp only [List.length_nil] at h
          omega
      rw [show List.filter good [n] = [n] from by simp [hg]] at h
      simp only [List.length_cons, List.length_nil] at h
      obtain ⟨s, h1, h2, h3⟩ := choose good n (m - 1) (by omega)
      have e : sel (s + 2 ^ n) (n + 1) = sel s n ++ [n] := by
        rw [sel_succ, bit_high h1, if_pos rfl, sel_congr (fun k hk => bit_low hk)]
      refine ⟨s + 2 ^ n, by omega, ?_, fun i hi => ?_⟩
      · rw [e, List.length_append, h2]; simp only [List.length_cons, List.length_nil]; omega
      · rw [e, List.mem_append, List.mem_singleton] at hi
        rcases hi with hi | hi
        · exact h3 i hi
        · rw [hi]; exact hg
/-- The points of a set. -/
def selG (s : Nat) (xs : List G) (n : Nat) : List G := (sel s n).map (coef xs)
@[simp] theorem selG_length (s : Nat) (xs : List G) (n : Nat) : (selG s xs n).length = (sel s n).length := by simp [selG]
theorem selG_succ (s : Nat) (xs : List G) (n : Nat) : selG s xs (n + 1) = if bitOf s n = true then selG s xs n ++ [coef xs n] else selG s xs n := by
  unfold selG
  rw [sel_succ]
  split
  · rw [List.map_append]; rfl
  · rfl
theorem selG_nodup {xs : List G} (hn : xs.Nodup) (s : Nat) : (selG s xs xs.length).Nodup := by
  unfold selG
  rw [List.Nodup, List.pairwise_map]
  refine List.Pairwise.imp_of_mem (fun {a b} ha hb h => ?_) (List.Pairwise.filter (bitOf s) (List.nodup_range (n := xs.length)))
  exact coef_ne hn (sel_lt ha) (sel_lt hb) h
theorem coef_selG {s : Nat} {xs : List G} {n i : Nat} (h : i < (sel s n).length) : coef (selG s xs n) i = coef xs ((sel s n)[i]) := by
  rw [coef_lt (by simpa using h)]
  simp [selG]
theorem fit_selG {s : Nat} {xs ys P : List G} {n : Nat} : Fit (selG s xs n) (selG s ys n) P ↔ ∀ j, j ∈ sel s n → eval P (coef xs j) = coef ys j := by
  constructor
  · intro h j hj
    obtain ⟨i, hi, rfl⟩ := List.getElem_of_mem hj
    have := h i (by simpa using hi)
    rwa [coef_selG hi, coef_selG hi] at this
  · intro h i hi
    rw [selG_length] at hi
    rw [coef_selG hi, coef_selG hi]
    exact h _ (List.getElem_mem hi)

section
variable (xs ys : List G) (d w : Nat)
theorem rdec_pick (s : Nat) (hs : s < 9223372036854775808) (hx : xs.length ≤ 50) (hy : xs.length = ys.length) (R : List Int × List Int × Int)
    (h : Ev (fun k => quietusref06_Decode.l1 k (en xs) (en ys) (d : Int) (w : Int) (xs.length : Int) (s : Int) (en (selG s xs xs.length)) (en (selG s ys xs.length)) (xs.length : Int)) R) :
    ∀ (e j : Nat), xs.length - j = e → j ≤ xs.length → Ev (fun k => quietusref06_Decode.l1 k (en xs) (en ys) (d : Int) (w : Int) (xs.length : Int) (s : Int) (en (selG s xs j)) (en (selG s ys j)) (j : Int)) R := by
  intro e
  induction e with
  | zero =>
    intro j he hj
    rw [show j = xs.length from by omega]
    exact h
  | succ e ih =>
    intro j he hj
    have g := ih (j + 1) (by omega) (by omega)
    rw [selG_succ, selG_succ] at g
    have hl := sel_len s j
    refine Ev.succ ?_
    simp only [quietusref06_Decode.l1]
    refine Ev.ifp (by omega) (Ev.ifp (by omega) ?_)
    rw [w64 (x := (j : Int) + 1) (by omega) (by omega), show (j : Int) + 1 = ((j + 1 : Nat) : Int) from by omega]
    by_cases hb : bitOf s j = true
    · rw [if_pos hb, if_pos hb] at g
      refine Ev.ifp ((bit_eq s j hs (by omega)).2 hb) (Ev.ifp (by rw [en_length]; omega) (Ev.ifp (by rw [en_length, selG_length]; omega) (Ev.ifp (by rw [en_length]; omega) (Ev.ifp (by rw [en_length, selG_length]; omega) ?_))))
      rw [rd_en', rd_en', ← en_one, ← en_one, ← en_append, ← en_append]
      exact g
    · rw [if_neg hb, if_neg hb] at g
      exact Ev.ifn (fun h => hb ((bit_eq s j hs (by omega)).1 h)) g
theorem rdec_step (hn : xs.Nodup) (hx : xs.length ≤ 50) (hy : xs.length = ys.length) (hd : d < xs.length) (s : Nat) (hs : s < 2 ^ xs.length) (R : List Int × List Int × Int)
    (h1 : ∀ P : List G, (sel s xs.length).length = d + 1 → trim P = P → P.length ≤ d + 1 → (∀ j, j ∈ sel s xs.length → eval P (coef xs j) = coef ys j) →
      ((missedN P xs ys xs.length).length ≤ w ∧ R = (en P, missedI P xs ys xs.length, 0)) ∨ (w < (missedN P xs ys xs.length).length ∧ Ev (fun k => quietusref06_Decode.l0 k (en xs) (en ys) (d : Int) (w : Int) (xs.length : Int) ((s + 1 : Nat) : Int)) R))
    (h2 : (sel s xs.length).length ≠ d + 1 → Ev (fun k => quietusref06_Decode.l0 k (en xs) (en ys) (d : Int) (w : Int) (xs.length : Int) ((s + 1 : Nat) : Int)) R) :
    Ev (fun k => quietusref06_Decode.l0 k (en xs) (en ys) (d : Int) (w : Int) (xs.length : Int) (s : Int)) R := by
  have hp : 2 ^ xs.length ≤ 2 ^ 50 := Nat.pow_le_pow_right (by decide) hx
  refine Ev.succ ?_
  simp only [quietusref06_Decode.l0]
  refine Ev.ifp (by omega) (Ev.ifp (by rw [shl_one _ (by omega)]; omega) ?_)
  refine rdec_pick xs ys d w s (by omega) hx hy R ?_ xs.length 0 rfl (Nat.zero_le _)
  refine Ev.succ ?_
  simp only [quietusref06_Decode.l1]
  rw [w64 (x := (d : Int) + 1) (by omega) (by omega), w64 (x := (s : Int) + 1) (by omega) (by omega), show (s : Int) + 1 = ((s + 1 : Nat) : Int) from by omega]
  refine Ev.ifn (by omega) ?_
  have hl := sel_len s xs.length
  by_cases hc : (sel s xs.length).length = d + 1
  · refine Ev.ifp (by rw [en_length, selG_length]; omega) ?_
    obtain ⟨P, hP, tP, lP, fP⟩ := Line_ev (selG s xs xs.length) (selG s ys xs.length) (selG_nodup hn s) (by rw [selG_length]; omega) (by simp)
    rw [selG_length, hc] at lP
    have hm := rmissed_ev P xs ys (by omega) (by omega) (by omega)
    rcases h1 P hc tP lP (fit_selG.1 fP) with ⟨hw, hR⟩ | ⟨hw, hR⟩
    · subst hR
      exact Ev.bind hP (Ev.bind hm (Ev.ifp (by rw [missedI_length]; omega) (Ev.now _)))
    · exact Ev.bind hP (Ev.bind hm (Ev.ifn (by rw [missedI_length]; omega) hR))
  · exact Ev.ifn (by rw [en_length, selG_length]; omega) (h2 hc)
theorem rdec_none (hn : xs.Nodup) (hx : xs.length ≤ 50) (hy : xs.length = ys.length) (hd : d < xs.length) (hu : ∀ W, sz W ≤ d + 1 → w < (missedN W xs ys xs.length).length) :
    ∀ (e s : Nat), 2 ^ xs.length - s = e → s ≤ 2 ^ xs.length → Ev (fun k => quietusref06_Decode.l0 k (en xs) (en ys) (d : Int) (w : Int) (xs.length : Int) (s : Int)) ([], [], 17) := by
  intro e
  induction e with
  | zero =>
    intro s he hs
    refine Ev.succ ?_
    simp only [quietusref06_Decode.l0]
    exact Ev.ifp (by omega) (Ev.ifn (by rw [shl_one _ (by omega)]; omega) (Ev.now _))
  | succ e ih =>
    intro s he hs
    have g := ih (s + 1) (by omega) (by omega)
    exact rdec_step xs ys d w hn hx hy hd s (by omega) _ (fun P _ _ lP _ => .inr ⟨hu P (Nat.le_trans (sz_le_length P) lP), g⟩) (fun _ => g)
theorem rdec_some (hn : xs.Nodup) (hx : xs.length ≤ 50) (hy : xs.length = ys.length) (hd : d < xs.length) (p : List G) (tp : trim p = p) (lp : p.length ≤ d + 1) (mp : (missedN p xs ys xs.length).length ≤ w)
    (hu : ∀ W, sz W ≤ d + 1 → (missedN W xs ys xs.length).length ≤ w → trim W = p) (t : Nat) (ht : t < 2 ^ xs.length) (tl : (sel t xs.length).length = d + 1) (tg : ∀ i, i ∈ sel t xs.length → eval p (coef xs i) = coef ys i) :
    ∀ (e s : Nat), t - s = e → s ≤ t → Ev (fun k => quietusref06_Decode.l0 k (en xs) (en ys) (d : Int) (w : Int) (xs.length : Int) (s : Int)) (en p, missedI p xs ys xs.length, 0) := by
  intro e
  induction e with
  | zero =>
    intro s he hs
    have : s = t := by omega
    subst this
    refine rdec_step xs ys d w hn hx hy hd s ht _ (fun P _ tP lP fP => .inl ?_) (fun h => absurd tl h)
    have e := fit_unique (xs := selG s xs xs.length) (ys := selG s ys xs.length) (P := P) (Q := p) (selG_nodup hn s) (by rw [selG_length, tl]; exact Nat.le_trans (sz_le_length P) lP) (by rw [selG_length, tl]; exact Nat.le_trans (sz_le_length p) lp) (fit_selG.2 fP) (fit_selG.2 tg)
    rw [tP, tp] at e
    subst e
    exact ⟨mp, rfl⟩
  | succ e ih =>
    intro s he hs
    have g := ih (s + 1) (by omega) (by omega)
    refine rdec_step xs ys d w hn hx hy hd s (by omega) _ (fun P _ tP lP fP => ?_) (fun _ => g)
    rcases Nat.lt_or_ge w (missedN P xs ys xs.length).length with h | h
    · exact .inr ⟨h, g⟩
    · have e := hu P (Nat.le_trans (sz_le_length P) lP) h
      rw [tP] at e
      subst e
      exact .inl ⟨h, rfl⟩
end
/-- The specification's Decode does what the program's does. -/
theorem rDecode_ev (xs ys : List G) (hn : xs.Nodup) (d w : Nat) (hx : xs.length ≤ 50) (hy : xs.length = ys.length) (hr : d + 1 + 2 * w ≤ xs.length)
    (g : Nat → Option (List Int × List Int × Int)) (hg : Dec xs ys d w g) (R : List Int × List Int × Int) (hR : Ev g R) :
    Ev (fun k => quietusref06_Decode.f k (en xs) (en ys) (d : Int) (w : Int)) R := by
  have main : Ev (fun k => quietusref06_Decode.l0 k (en xs) (en ys) (d : Int) (w : Int) (xs.length : Int) ((0 : Nat) : Int)) R := by
    rcases hg with ⟨p, h1, tp, lp, mp, hu⟩ | ⟨h1, hu⟩
    · obtain ⟨k1, e1⟩ := hR
      obtain ⟨k2, e2⟩ := h1
      have e : R = (en p, missedI p xs ys xs.length, 0) := by
        have a := e1 (max k1 k2) (Nat.le_max_left _ _)
        have b := e2 (max k1 k2) (Nat.le_max_right _ _)
        rw [a] at b
        exact Option.some.inj b
      subst e
      have hsp := filter_split (bad p xs ys) (List.range xs.length)
      rw [List.length_range] at hsp
      have hm' : ((List.range xs.length).filter (bad p xs ys)).length ≤ w := mp
      obtain ⟨t, t1, t2, t3⟩ := choose (fun i => !bad p xs ys i) xs.length (d + 1) (by omega)
      exact rdec_some xs ys d w hn hx hy (by omega) p tp lp mp hu t t1 t2 (fun i hi => by simpa [bad] using t3 i hi) t 0 rfl (Nat.zero_le _)
    · obtain ⟨k1, e1⟩ := hR
      obtain ⟨k2, e2⟩ := h1
      have e : R = ([], [], 17) := by
        have a := e1 (max k1 k2) (Nat.le_max_left _ _)
        have b := e2 (max k1 k2) (Nat.le_max_right _ _)
        rw [a] at b
        exact Option.some.inj b
      subst e
      exact rdec_none xs ys d w hn hx hy (by omega) hu _ 0 rfl (Nat.zero_le _)
  unfold quietusref06_Decode.f
  refine Ev.bind (rright_ev xs ys (by omega)) ?_
  rw [decide_eq_true ⟨hn, hy⟩]
  refine Ev.ifp rfl (Ev.ifn (by omega) (Ev.ifn (by omega) (Ev.ifn (by rw [en_length]; omega) (Ev.ifn (by rw [en_length]; omega) ?_))))
  rw [en_length, w64 (x := (d : Int) + 1) (by omega) (by omega), w64 (x := 2 * (w : Int)) (by omega) (by omega), w64 (x := (d : Int) + 1 + 2 * (w : Int)) (by omega) (by omega), decide_eq_false (by omega)]
  refine Ev.succ ?_
  simp only [quietusref06_Decode.j0]
  exact Ev.ifn (by simp) main
theorem rDecode_not (xs ys : List G) (d w : Int) (hx : xs.length ≤ 9223372036854775807) (h : ¬ (xs.Nodup ∧ xs.length = ys.length)) : Ev (fun k => quietusref06_Decode.f k (en xs) (en ys) d w) ([], [], 1) := by
  unfold quietusref06_Decode.f
  refine Ev.bind (rright_ev xs ys hx) ?_
  rw [decide_eq_false h]
  exact Ev.ifn (by simp) (Ev.now _)
theorem rDecode_range (xs ys : List G) (d w : Int) (h : xs.Nodup ∧ xs.length = ys.length) (hx : xs.length ≤ 50) (hd : d < 0 ∨ w < 0 ∨ (xs.length : Int) ≤ d ∨ (xs.length : Int) - d - 1 < 2 * w) : Ev (fun k => quietusref06_Decode.f k (en xs) (en ys) d w) ([], [], 3) := by
  have last : Ev (fun k => quietusref06_Decode.j0 k (en xs) (en ys) d w (xs.length : Int) true) ([], [], 3) := by
    refine Ev.succ ?_
    simp only [quietusref06_Decode.j0]
    exact Ev.ifp (by trivial) (Ev.now _)
  unfold quietusref06_Decode.f
  refine Ev.bind (rright_ev xs ys (by omega)) ?_
  rw [decide_eq_true h]
  refine Ev.ifp rfl ?_
  rw [en_length]
  by_cases h0 : d < 0
  · exact Ev.ifp h0 last
  · refine Ev.ifn h0 ?_
    by_cases h1 : w < 0
    · exact Ev.ifp h1 last
    · refine Ev.ifn h1 ?_
      by_cases h2 : (xs.length : Int) ≤ d
      · exact Ev.ifp (by omega) last
      · refine Ev.ifn (by omega) ?_
        by_cases h3 : w > (xs.length : Int)
        · exact Ev.ifp h3 last
        · refine Ev.ifn h3 ?_
          rw [w64 (x := d + 1) (by omega) (by omega), w64 (x := 2 * w) (by omega) (by omega), w64 (x := d + 1 + 2 * w) (by omega) (by omega), decide_eq_true (by omega)]
          exact last
end Go.Proofs.YtldfcpmapbofgaaDoor.Br
