/- Decode corrects as many changes as the points allow: what is left of PolyCorrects over lists. -/
import Derived.Test.YtldfcpmapbofgaaDoorBrA
import Derived.Test.YtldfcpmapbofgaaDoorM17
namespace Go.Proofs.YtldfcpmapbofgaaDoor.Pure
open Go.RowKit Go.Proofs.YtldfcpmapbofgaaDoorW.PrintWords Go.Proofs.YtldfcpmapbofgaaDoorW.PrintMore Go.Proofs.YtldfcpmapbofgaaDoor.M Go.Proofs.QGf Go.Proofs.YtldfcpmapbofgaaDoor.Br

theorem same_yes4 (M : List Int) (h : M.length ≤ 1000000000) : Ev (fun k => quietusref06_Same.f k M M) true := by
  have h1 := same_ev M M h
  rwa [decide_eq_true (rfl : M = M)] at h1
theorem sameI_yes4 (M : List Int) (h : M.length ≤ 1000000000) : Ev (fun k => quietusref06_SameInts.f k M M) true := by
  have h1 := sameInts_ev M M h
  rwa [decide_eq_true (rfl : M = M)] at h1
theorem sane4 : Ev (fun _ : Nat => quietuslaw06_sanity.f) true := Ev.const rfl
/-- One more change: at most one more point is missed. -/
theorem missed_set (p xs ys : List G) (i : Nat) (g : G) (hi : i < ys.length) : ∀ n, (missedN p xs (ys.set i g) n).length ≤ (missedN p xs ys n).length + (if i < n then 1 else 0) := by
  intro n
  induction n with
  | zero => simp [missedN]
  | succ n ih =>
    have h1 : ∀ zs, (missedN p xs zs (n + 1)).length = (missedN p xs zs n).length + (if eval p (coef xs n) = coef zs n then 0 else 1) := fun zs => by
      have := congrArg List.length (missedI_succ p xs zs n)
      rw [missedI_length] at this
      rw [this]
      split
      · rw [missedI_length]; omega
      · rw [List.length_append, missedI_length]; simp
    have a1 : ∀ (A : Prop) [Decidable A], (if A then 0 else 1) ≤ 1 := fun A _ => by split <;> omega
    rw [h1, h1, coef_set _ _ _ _ hi]
    by_cases e : n = i
    · have e1 : (if i < n then 1 else 0) = 0 := if_neg (by omega)
      have e2 : (if i < n + 1 then 1 else 0) = 1 := if_pos (by omega)
      rw [e1] at ih
      rw [e2]
      have := a1 (eval p (coef xs n) = if n = i then g else coef ys n)
      omega
    · rw [if_neg e]
      by_cases h : i < n
      · have e1 : (if i < n then 1 else 0) = 1 := if_pos h
        have e2 : (if i < n + 1 then 1 else 0) = 1 := if_pos (by omega)
        rw [e1] at ih
        rw [e2]
        omega
      · have e1 : (if i < n then 1 else 0) = 0 := if_neg h
        have e2 : (if i < n + 1 then 1 else 0) = 0 := if_neg (by omega)
        rw [e1] at ih
        rw [e2]
        omega
theorem missed_none (p xs : List G) : ∀ n, n ≤ xs.length → (missedN p xs (valuesP p xs) n).length = 0 := by
  intro n
  induction n with
  | zero => intro _; simp [missedN]
  | succ n ih =>
    intro hn
    have := congrArg List.length (missedI_succ p xs (valuesP p xs) n)
    rw [if_pos (coef_valuesP p xs (by omega)).symm, missedI_length, missedI_length] at this
    rw [this, ih (by omega)]
theorem correct_loop (xs p : List G) (c : List Int) (hx : xs.length ≤ 40) (hn : xs.Nodup) (hp : p.length ≤ xs.length) (h0 : p.length ≠ 0) (hc : c.length ≤ (xs.length - p.length) / 2) (hcb : ∀ x ∈ c, 0 ≤ x ∧ x < 65536) :
    ∀ (d j : Nat) (ys : List G), c.length - j = d → j ≤ c.length → ys.length = xs.length → (missedN p xs ys xs.length).length ≤ j →
      Ev (fun k => quietuslaw06_PolyCorrects.l0 k (en xs) (en p) c (((xs.length - p.length) / 2 : Nat) : Int) (en ys) (j : Int)) true := by
  intro d
  induction d with
  | zero =>
    intro j ys hd hj hl hm
    have sp := sz_le_length p
    have lm := missedN_le p xs ys xs.length
    have hmo := rmissed_ev p xs ys (by omega) (by omega) (by omega)
    refine Ev.succ ?_
    simp only [quietuslaw06_PolyCorrects.l0]
    refine Ev.ifn (by omega) (Ev.bind hmo ?_)
    rw [en_length, w64 (by omega) (by omega), show (p.length : Int) - 1 = ((p.length - 1 : Nat) : Int) from by omega]
    rcases Decode_ev xs ys hn (p.length - 1) ((xs.length - p.length) / 2) (by omega) hl.symm (by omega) with ⟨q, hq, tq, lq, mq, hu⟩ | ⟨hq, hu⟩
    · have e := hu p (by omega) (by omega)
      subst e
      have em : missedI (trim p) xs ys xs.length = missedI p xs ys xs.length := by
        unfold missedI missedN
        refine congrArg (fun f => List.map _ (List.filter f _)) (funext fun i => ?_)
        unfold bad
        rw [eval_trim]
      rw [em] at hq
      refine Ev.bind hq (Ev.bind sane4 (Ev.ifp rfl (Ev.ifp rfl (Ev.bind (trim_ev p (by omega)) (Ev.bind (same_yes4 _ (by rw [en_length]; omega)) (Ev.ifp rfl (Ev.bind (sameI_yes4 _ (by rw [missedI_length]; omega)) (Ev.now _))))))))
    · have := hu p (by omega)
      omega
  | succ d ih =>
    intro j ys hd hj hl hm
    have hr : rd c (j : Int) = c[j]'(by omega) := by unfold rd; rw [Int.toNat_natCast, List.getD_eq_getElem?_getD, List.getElem?_eq_getElem (by omega)]; rfl
    obtain ⟨b0, b1⟩ := hcb (c[j]'(by omega)) (List.getElem_mem _)
    obtain ⟨v, hv⟩ : ∃ v : Nat, c[j]'(by omega) = (v : Int) := ⟨(c[j]'(by omega)).toNat, by omega⟩
    have hi : Int.tmod (wrap64 ((v : Int) / 256)) (xs.length : Int) = ((v / 256 % xs.length : Nat) : Int) := by
      rw [w64 (by omega) (by omega), show (v : Int) / 256 = ((v / 256 : Nat) : Int) from by omega]; rfl
    have hlt : v / 256 % xs.length < xs.length := Nat.mod_lt _ (by omega)
    have hg : (v : Int) % 256 = ((ofN (v % 256)).n : Int) := by rw [ofN_n (by omega)]; omega
    have g := ih (j + 1) (ys.set (v / 256 % xs.length) (ofN (v % 256))) (by omega) (by omega) (by simpa using hl) (by
      have := missed_set p xs ys (v / 256 % xs.length) (ofN (v % 256)) (by omega) xs.length
      rw [if_pos hlt] at this
      omega)
    refine Ev.succ ?_
    simp only [quietuslaw06_PolyCorrects.l0]
    rw [hr, hv, en_length, hi, hg]
    refine Ev.ifp (by omega) (Ev.ifp (by omega) (Ev.ifn (by omega) (Ev.ifp (by omega) (Ev.ifp (by rw [en_length]; omega) ?_))))
    rw [Int.toNat_natCast, en_set, w64 (by omega) (by omega), show (j : Int) + 1 = ((j + 1 : Nat) : Int) from by omega]
    exact g
theorem PolyCorrects : quietuslaw06_PolyCorrects.Pure := by
  intro l0 l1 c hm0 _ h0 hm1 _ h1 hm2 _ h2
  obtain ⟨xs, rfl⟩ := de h0
  obtain ⟨p, rfl⟩ := de h1
  refine Ev.rounds ?_
  have hcb : ∀ x ∈ c, 0 ≤ x ∧ x < 65536 := fun x hx => by
    have := h2 x hx
    simp [Lit.wf, show IntKind.u16.min = 0 from by decide, show IntKind.u16.max = 65535 from by decide] at this
    omega
  have long : Ev (fun k => quietuslaw06_PolyCorrects.j0 k (en xs) (en p) c true) true := by
    refine Ev.succ ?_
    simp only [quietuslaw06_PolyCorrects.j0]
    exact Ev.ifp (by trivial) (Ev.bind sane4 (Ev.now _))
  unfold quietuslaw06_PolyCorrects.f
  refine Ev.bind (rright_ev xs xs (by rw [en_length] at hm0; exact hm0)) ?_
  by_cases hx : xs.length ≤ 40
  · refine Ev.ifn (by rw [en_length]; omega) ?_
    by_cases hr : xs.Nodup ∧ xs.length = xs.length
    · rw [decide_eq_true hr]
      refine Ev.ifp rfl ?_
      by_cases hp0 : p.length = 0
      · exact Ev.ifp (by rw [en_length]; omega) long
      · refine Ev.ifn (by rw [en_length]; omega) ?_
        rw [en_length, en_length]
        by_cases hp : p.length ≤ xs.length
        · rw [decide_eq_false (by omega)]
          have e : Int.tdiv (((xs.length - p.length : Nat)) : Int) 2 = (((xs.length - p.length) / 2 : Nat) : Int) := rfl
          refine Ev.succ ?_
          simp only [quietuslaw06_PolyCorrects.j0]
          rw [en_length, en_length, w64 (x := (xs.length : Int) - (p.length : Int)) (by omega) (by omega), show (xs.length : Int) - (p.length : Int) = ((xs.length - p.length : Nat) : Int) from by omega, e, w64 (by omega) (by omega)]
          refine Ev.ifn (by simp) ?_
          by_cases hc : c.length ≤ (xs.length - p.length) / 2
          · refine Ev.ifn (by omega) (Ev.bind (values_ev p xs (by omega) (by omega)) ?_)
            exact correct_loop xs p c hx hr.1 hp hp0 hc hcb c.length 0 (valuesP p xs) rfl (Nat.zero_le _) (by simp) (by rw [missed_none p xs xs.length (Nat.le_refl _)]; omega)
          · exact Ev.ifp (by omega) (Ev.bind sane4 (Ev.now _))
        · rw [decide_eq_true (by omega)]
          exact long
    · rw [decide_eq_false hr]
      exact Ev.ifn (by simp) long
  · exact Ev.ifp (by rw [en_length]; omega) long
end Go.Proofs.YtldfcpmapbofgaaDoor.Pure
