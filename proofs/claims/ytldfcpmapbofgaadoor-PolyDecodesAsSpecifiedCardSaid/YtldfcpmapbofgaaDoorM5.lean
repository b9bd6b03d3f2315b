-- PRINTED by print.py (a twelfth state) out of the translation. Not trusted: Lean checks it.
import Derived.Test.YtldfcpmapbofgaaDoorM0
import Derived.Test.YtldfcpmapbofgaaDoorM1
import Derived.Test.YtldfcpmapbofgaaDoorM2
import Derived.Test.YtldfcpmapbofgaaDoorM3
import Derived.Test.YtldfcpmapbofgaaDoorM4
namespace Go.Proofs.YtldfcpmapbofgaaDoor.M
open Go.RowKit Go.Proofs.YtldfcpmapbofgaaDoorW.PrintWords Go.Proofs.YtldfcpmapbofgaaDoorW.PrintLast Go.Proofs.YtldfcpmapbofgaaDoorW.PrintMore
attribute [local go_sem] max2_int min2_int max_two min_two max_three min_three max_four min_four   -- for this text's walks alone
set_option linter.unusedVariables false
set_option linter.unusedSimpArgs false

/-! ### quietusref06_SameInts: function 18 -/
def quietusref06_SameInts.l0 : Nat → List Int → List Int → Int → Option (Bool)
  | 0, _, _, _ => none
  | k + 1, x0, x1, x5 => if x5 < (x0.length : Int) then (if 0 ≤ x5 then (if x5 < (x1.length : Int) then (if (rd x0 x5) = (rd x1 x5) then (quietusref06_SameInts.l0 k x0 x1 (wrap64 (x5 + 1))) else (some false)) else (none)) else (none)) else (some true)
def quietusref06_SameInts.f (k : Nat) (l0 : List Int) (l1 : List Int) : Option (Bool) := if (l0.length : Int) = (l1.length : Int) then (quietusref06_SameInts.l0 k l0 l1 0) else (some false)
theorem quietusref06_SameInts.mono_l : ∀ k, (∀ y0 y1 y2, LeO (quietusref06_SameInts.l0 k y0 y1 y2) (quietusref06_SameInts.l0 (k + 1) y0 y1 y2))
  | 0 => fun _ _ _ r h => by simp [quietusref06_SameInts.l0] at h
  | k + 1 => by
    have ih0 := quietusref06_SameInts.mono_l k
    · intro y0 y1 y2
      unfold quietusref06_SameInts.l0
      repeat' first
      | (with_reducible exact ih0 _ _ _)
      | (with_reducible exact LeO.refl _)
      | (with_reducible exact LeO.none _)
      | (with_reducible refine LeO.ite ?_ ?_)
      | (with_reducible refine LeO.bind ?_ (fun _ => ?_))
      | exact ih0 _ _ _
      | exact LeO.none _
      | refine LeO.ite ?_ ?_
      | refine LeO.bind ?_ (fun _ => ?_)
theorem quietusref06_SameInts.mono : ∀ a0 a1 k, LeO (quietusref06_SameInts.f k a0 a1) (quietusref06_SameInts.f (k + 1) a0 a1) := by
  intro a0 a1 k
  have ih0 := quietusref06_SameInts.mono_l k
  unfold quietusref06_SameInts.f
  repeat' first
      | (with_reducible exact ih0 _ _ _)
      | (with_reducible exact LeO.refl _)
      | (with_reducible exact LeO.none _)
      | (with_reducible refine LeO.ite ?_ ?_)
      | (with_reducible refine LeO.bind ?_ (fun _ => ?_))
      | exact ih0 _ _ _
      | exact LeO.none _
      | refine LeO.ite ?_ ?_
      | refine LeO.bind ?_ (fun _ => ?_)
set_option maxHeartbeats 8000000 in
set_option maxRecDepth 100000 in
theorem quietusref06_SameInts.calls (k : Nat) (A0 : Option Addr) (c0 : Nat) (l0 : List Int) (A1 : Option Addr) (c1 : Nat) (l1 : List Int) (r : Bool) (w : World) (hr0 : Kd.C (Kd.int .i64) w A0 l0.length l0) (hc0 : l0.length ≤ c0) (hr1 : Kd.C (Kd.int .i64) w A1 l1.length l1) (hc1 : l1.length ≤ c1) (h : quietusref06_SameInts.f k l0 l1 = some r) :
    Calls Tryd.prog 18 #[.slice A0 l0.length c0, .slice A1 l1.length c1] w fun e w' => e = .returned (.bool r) ∧ Drawn0 w w' := by
  have HR0 := Aside0.mk hr0
  have HC0 := Aside0.mk hc0
  clear hr0 hc0
  have HR1 := Aside0.mk hr1
  have HC1 := Aside0.mk hc1
  clear hr1 hc1
  have H : (if (l0.length : Int) = (l1.length : Int) then (quietusref06_SameInts.l0 k l0 l1 0) else (some false)) = some r := h
  clear h
  by_cases c3 : (l0.length : Int) = (l1.length : Int)
  · rw [if_pos c3] at H
    have c3b0 : ((l0.length : Int) == (l1.length : Int)) = true := beq_iff_eq.mpr c3
    have c3b1 : ((l0.length : Int) != (l1.length : Int)) = false := bne_eq_false_iff_eq.mpr c3
    have c3b2 : (l0.length == l1.length) = true := by first | simpa using c3 | (simp at c3 ⊢; omega)
    clear c3
    have H' := Aside0.mk H
    clear H
    go_enter Tryd.func18, Tryd.ntmps18
    go_wp2
    repeat (go_quiet (fail); try go_wp2)
    go_loopg [5] k (fun kq v5 w' => ∃ (x5_1 : Int), v5 = .int .i64 x5_1 ∧ Aside0 (quietusref06_SameInts.l0 kq l0 l1 x5_1 = some r) ∧ Aside0 (kq ≤ k) ∧ Drawn0 w w')
    case atStart => exact ⟨(0), (by first | rfl | (simp; done) | (simp [*]; done)), H', ⟨Nat.le_refl _⟩, by repeat (first | exact Drawn0.refl _ | apply Drawn0.step)⟩
    case round =>
      clear H'
      try clear c1
      try clear p2
      try clear c3
      try clear c3b0
      try clear c3b1
      try clear c3b2
      obtain ⟨x5_1, rfl, HA, HK1, ⟨m1, rfl⟩⟩ := hrel
      cases gk with
      | zero => exact absurd HA.out (by simp [quietusref06_SameInts.l0])
      | succ k1 =>
        have H := HA.out
        clear HA
        simp only [quietusref06_SameInts.l0] at H
        by_cases c4 : x5_1 < (l0.length : Int)
        · rw [if_pos c4] at H
          have c4b0 : decide (x5_1 < (l0.length : Int)) = true := decide_eq_true c4
          clear c4
          by_cases c5 : 0 ≤ x5_1
          · rw [if_pos c5] at H
            have c5b0 : decide (0 ≤ x5_1) = true := decide_eq_true c5
            clear c5
            by_cases c6 : x5_1 < (l1.length : Int)
            · rw [if_pos c6] at H
              have c6b0 : decide (x5_1 < (l1.length : Int)) = true := decide_eq_true c6
              clear c6
              by_cases c7 : (rd l0 x5_1) = (rd l1 x5_1)
              · rw [if_pos c7] at H
                have c7b0 : ((rd l0 x5_1) == (rd l1 x5_1)) = true := beq_iff_eq.mpr c7
                have c7b1 : ((rd l0 x5_1) != (rd l1 x5_1)) = false := bne_eq_false_iff_eq.mpr c7
                clear c7
                have H' := Aside0.mk H
                clear H
                have p244 : 0 ≤ (x5_1 : Int) := of_decide_eq_true (by first | (with_reducible assumption) | assumption)
                have q244 : x5_1 < (l0.length : Int) := of_decide_eq_true (by first | (with_reducible assumption) | assumption)
                obtain ⟨ad244, e244, hx244_0⟩ := Kd.at_int HR0.out x5_1 p244 q244
                cases e244
                replace p244 := eq_true p244
                replace q244 := eq_true q244
                have p245 : 0 ≤ (x5_1 : Int) := of_decide_eq_true (by first | (with_reducible assumption) | assumption)
                have q245 : x5_1 < (l1.length : Int) := of_decide_eq_true (by first | (with_reducible assumption) | assumption)
                obtain ⟨ad245, e245, hx245_0⟩ := Kd.at_int HR1.out x5_1 p245 q245
                cases e245
                replace p245 := eq_true p245
                replace q245 := eq_true q245
                go_wp2
                repeat (go_quiet (fail); try go_wp2)
                go_roundg k1
                case measure => have := HK1.out; omega
                case rel => exact ⟨(wrap64 (x5_1 + 1)), (by first | rfl | (simp; done) | (simp [*]; done)), H', ⟨by have := HK1.out; omega⟩, by repeat (first | exact Drawn0.refl _ | apply Drawn0.step)⟩
              · rw [if_neg c7] at H
                have c7b0 : ((rd l0 x5_1) == (rd l1 x5_1)) = false := beq_eq_false_iff_ne.mpr c7
                have c7b1 : ((rd l0 x5_1) != (rd l1 x5_1)) = true := bne_iff_ne.mpr c7
                obtain rfl := Option.some.inj H
                have p244 : 0 ≤ (x5_1 : Int) := of_decide_eq_true (by first | (with_reducible assumption) | assumption)
                have q244 : x5_1 < (l0.length : Int) := of_decide_eq_true (by first | (with_reducible assumption) | assumption)
                obtain ⟨ad244, e244, hx244_0⟩ := Kd.at_int HR0.out x5_1 p244 q244
                cases e244
                replace p244 := eq_true p244
                replace q244 := eq_true q244
                have p245 : 0 ≤ (x5_1 : Int) := of_decide_eq_true (by first | (with_reducible assumption) | assumption)
                have q245 : x5_1 < (l1.length : Int) := of_decide_eq_true (by first | (with_reducible assumption) | assumption)
                obtain ⟨ad245, e245, hx245_0⟩ := Kd.at_int HR1.out x5_1 p245 q245
                cases e245
                replace p245 := eq_true p245
                replace q245 := eq_true q245
                go_wp2
                repeat (go_quiet (fail); try go_wp2)
                go_ret
                exact ⟨by first | rfl | (simp; done) | (simp [*]; done), by repeat (first | exact Drawn0.refl _ | apply Drawn0.step)⟩
            · rw [if_neg c6] at H
              exact absurd H (by simp)
          · rw [if_neg c5] at H
            exact absurd H (by simp)
        · rw [if_neg c4] at H
          have c4b0 : decide (x5_1 < (l0.length : Int)) = false := decide_eq_false c4
          clear c4
          obtain rfl := Option.some.inj H
          go_wp2
          repeat (go_quiet (fail); try go_wp2)
          go_ret
          exact ⟨by first | rfl | (simp; done) | (simp [*]; done), by repeat (first | exact Drawn0.refl _ | apply Drawn0.step)⟩
  · rw [if_neg c3] at H
    have c3b0 : ((l0.length : Int) == (l1.length : Int)) = false := beq_eq_false_iff_ne.mpr c3
    have c3b1 : ((l0.length : Int) != (l1.length : Int)) = true := bne_iff_ne.mpr c3
    have c3b2 : (l0.length == l1.length) = false := by first | simpa using c3 | (simp at c3 ⊢; omega)
    obtain rfl := Option.some.inj H
    go_enter Tryd.func18, Tryd.ntmps18
    go_wp2
    repeat (go_quiet (fail); try go_wp2)
    go_ret
    exact ⟨by first | rfl | (simp; done) | (simp [*]; done), by repeat (first | exact Drawn0.refl _ | apply Drawn0.step)⟩

/-! ### poly_Mul: function 30 -/
def poly_Mul.f (k : Nat) (l0 : List Int) (l1 : List Int) : Option (List Int × Int) := if (l0.length : Int) > 256 then (some (([] : List Int), 2)) else (if (l1.length : Int) > 256 then (some (([] : List Int), 2)) else ((poly_product.f k l0 l1).bind fun t246 => (some (t246, 0))))
theorem poly_Mul.mono : ∀ a0 a1 k, LeO (poly_Mul.f k a0 a1) (poly_Mul.f (k + 1) a0 a1) := by
  intro a0 a1 k
  unfold poly_Mul.f
  repeat' first
      | (with_reducible exact poly_product.mono _ _ _)
      | (with_reducible exact LeO.refl _)
      | (with_reducible exact LeO.none _)
      | (with_reducible refine LeO.ite ?_ ?_)
      | (with_reducible refine LeO.bind ?_ (fun _ => ?_))
      | exact poly_product.mono _ _ _
      | exact LeO.none _
      | refine LeO.ite ?_ ?_
      | refine LeO.bind ?_ (fun _ => ?_)
set_option maxHeartbeats 8000000 in
set_option maxRecDepth 100000 in
theorem poly_Mul.calls (k : Nat) (A0 : Option Addr) (c0 : Nat) (l0 : List Int) (A1 : Option Addr) (c1 : Nat) (l1 : List Int) (r1 : List Int) (r2 : Int) (w : World) (hLd : Laid w) (hr0 : Kd.C (Kd.int .u8) w A0 l0.length l0) (hc0 : l0.length ≤ c0) (hr1 : Kd.C (Kd.int .u8) w A1 l1.length l1) (hc1 : l1.length ≤ c1) (h : poly_Mul.f k l0 l1 = some (r1, r2)) :
    Calls Tryd.prog 30 #[.slice A0 l0.length c0, .slice A1 l1.length c1] w fun e w' => ∃ v0_ : Value, e = .returned (.tuple #[v0_, .int .i64 r2]) ∧ Kd.R (Kd.int .u8) 5 w' w.heap.size (fun _ => True) v0_ r1 ∧ Below w.heap.size w w' := by
  have HLD := Aside0.mk hLd
  clear hLd
  have HR0 := Aside0.mk hr0
  have HC0 := Aside0.mk hc0
  clear hr0 hc0
  have HR1 := Aside0.mk hr1
  have HC1 := Aside0.mk hc1
  clear hr1 hc1
  have HB := Aside0.mk (Below.refl w.heap.size w)
  have H : (if (l0.length : Int) > 256 then (some (([] : List Int), 2)) else (if (l1.length : Int) > 256 then (some (([] : List Int), 2)) else ((poly_product.f k l0 l1).bind fun t246 => (some (t246, 0))))) = some (r1, r2) := h
  clear h
  by_cases c3 : (l0.length : Int) > 256
  · rw [if_pos c3] at H
    have c3b0 : decide (256 < (l0.length : Int)) = true := decide_eq_true c3
    have c3b1 : decide (256 < l0.length) = true := decide_eq_true (by omega)
    clear c3
    simp only [Option.some.injEq, Prod.mk.injEq] at H
    obtain ⟨rfl, rfl⟩ := H
    go_enter Tryd.func30, Tryd.ntmps30
    go_wp2
    go_ret2
    exact ⟨_, by first | rfl | (simp [errW_none, errW_some] <;> rfl) | (simp [*, errW_none, errW_some] <;> rfl), by first | exact Kd.R_nil _ _ _ _ _ | exact Kd.N_nil _ _ _ _ _ | exact Kd.V_nil _ _ _ _ _ | exact Kd.Q_nil _ _ _ _ _ | exact Kd.S_nil _ _ _ _ _, by repeat (first | (with_reducible first | exact HB.out | apply below_alloc | apply pw_below_drewN | apply below_drew1) | exact HB.out)⟩
  · rw [if_neg c3] at H
    have c3b0 : decide (256 < (l0.length : Int)) = false := decide_eq_false c3
    have c3b1 : decide (256 < l0.length) = false := decide_eq_false (by omega)
    clear c3
    by_cases c4 : (l1.length : Int) > 256
    · rw [if_pos c4] at H
      have c4b0 : decide (256 < (l1.length : Int)) = true := decide_eq_true c4
      have c4b1 : decide (256 < l1.length) = true := decide_eq_true (by omega)
      clear c4
      simp only [Option.some.injEq, Prod.mk.injEq] at H
      obtain ⟨rfl, rfl⟩ := H
      go_enter Tryd.func30, Tryd.ntmps30
      go_wp2
      go_ret2
      exact ⟨_, by first | rfl | (simp [errW_none, errW_some] <;> rfl) | (simp [*, errW_none, errW_some] <;> rfl), by first | exact Kd.R_nil _ _ _ _ _ | exact Kd.N_nil _ _ _ _ _ | exact Kd.V_nil _ _ _ _ _ | exact Kd.Q_nil _ _ _ _ _ | exact Kd.S_nil _ _ _ _ _, by repeat (first | (with_reducible first | exact HB.out | apply below_alloc | apply pw_below_drewN | apply below_drew1) | exact HB.out)⟩
    · rw [if_neg c4] at H
      have c4b0 : decide (256 < (l1.length : Int)) = false := decide_eq_false c4
      have c4b1 : decide (256 < l1.length) = false := decide_eq_false (by omega)
      clear c4
      replace H := Option.bind_eq_some_iff.mp H
      obtain ⟨t246, A50, H⟩ := H
      replace H : (some (t246, 0)) = some (r1, r2) := H
      have A5 := Aside0.mk A50
      clear A50
      simp only [Option.some.injEq, Prod.mk.injEq] at H
      obtain ⟨rfl, rfl⟩ := H
      go_enter Tryd.func30, Tryd.ntmps30
      go_wp2_with (first | ((with_reducible refine gate_callee (f := 41) rfl ?_); refine goesL_ (some 16) rfl rfl Tryd.func41 (by kernel_rfl) rfl #[.slice A0 l0.length c0, .slice A1 l1.length c1] rfl (by (try simp only [List.map_toArray, List.map_cons, List.map_nil]); first | done | rfl | (simp only [List.length_drop, List.length_take]; rfl)) ?_; (with_reducible refine (poly_product.calls k _ _ l0 _ _ l1 t246 _ ?side5 ?side1 ?side2 ?side3 ?side4 A5.out).mono ?_); (case side1 => repeat (first | exact HR0.out | (with_reducible refine Kd.C_alloc ?_ _) | (with_reducible refine Kd.C_drewN ?_ _) | (with_reducible refine Kd.C_drew ?_))); (case side2 => exact HC0.out); (case side3 => repeat (first | exact HR1.out | (with_reducible refine Kd.C_alloc ?_ _) | (with_reducible refine Kd.C_drewN ?_ _) | (with_reducible refine Kd.C_drew ?_))); (case side4 => exact HC1.out); (case side5 => exact Kd.C_below HLD.out (by repeat (first | (with_reducible first | exact HB.out | apply below_alloc | apply pw_below_drewN | apply below_drew1) | exact HB.out))); rintro e w6 ⟨v247, rfl, ho0, hb⟩; refine ⟨_, rfl, ?_⟩; have n0_ := Aside0.mk (Kd.R_lower ho0 (below_size (by repeat (first | (with_reducible first | exact HB.out | apply below_alloc | apply pw_below_drewN | apply below_drew1) | exact HB.out)))); have n1_ := Aside0.mk (below_step (by repeat (first | (with_reducible first | exact HB.out | apply below_alloc | apply pw_below_drewN | apply below_drew1) | exact HB.out)) hb); clear HB; have HO248 := n0_; have HB := n1_; clear n0_ n1_; (try clear hb); (try clear hb2); (try clear hk); (try clear hi); (try clear ho0)))
      go_ret2
      exact ⟨_, by first | rfl | (simp [errW_none, errW_some] <;> rfl) | (simp [*, errW_none, errW_some] <;> rfl), by (with_reducible repeat (first | apply Kd.R_alloc | apply Kd.R_drewN | apply Kd.R_drew)); exact HO248.out, by repeat (first | (with_reducible first | exact HB.out | apply below_alloc | apply pw_below_drewN | apply below_drew1) | exact HB.out)⟩

/-! ### poly_DivMod: function 31 -/
def poly_DivMod.j0 : Nat → List Int → List Int → Bool → Option (List Int × List Int × Int)
  | 0, _, _, _ => none
  | k + 1, x0, x1, x14 => if x14 = true then (some (([] : List Int), ([] : List Int), 2)) else ((poly_Degree.f k x1).bind fun t249 => (if t249 < 0 then (some (([] : List Int), ([] : List Int), 1)) else ((poly_divide.f k x0 x1).bind fun bt250 => (some (bt250.1, bt250.2, 0)))))
def poly_DivMod.f (k : Nat) (l0 : List Int) (l1 : List Int) : Option (List Int × List Int × Int) := if (l0.length : Int) > 256 then (poly_DivMod.j0 k l0 l1 true) else (poly_DivMod.j0 k l0 l1 (decide ((l1.length : Int) > 256)))
theorem poly_DivMod.mono_l : ∀ k, (∀ y0 y1 y2, LeO (poly_DivMod.j0 k y0 y1 y2) (poly_DivMod.j0 (k + 1) y0 y1 y2))
  | 0 => fun _ _ _ r h => by simp [poly_DivMod.j0] at h
  | k + 1 => by
    have ih0 := poly_DivMod.mono_l k
    · intro y0 y1 y2
      unfold poly_DivMod.j0
      repeat' first
      | (with_reducible exact ih0 _ _ _)
      | (with_reducible exact poly_Degree.mono _ _)
      | (with_reducible exact poly_divide.mono _ _ _)
      | (with_reducible exact LeO.refl _)
      | (with_reducible exact LeO.none _)
      | (with_reducible refine LeO.ite ?_ ?_)
      | (with_reducible refine LeO.bind ?_ (fun _ => ?_))
      | exact ih0 _ _ _
      | exact poly_Degree.mono _ _
      | exact poly_divide.mono _ _ _
      | exact LeO.none _
      | refine LeO.ite ?_ ?_
      | refine LeO.bind ?_ (fun _ => ?_)
theorem poly_DivMod.mono : ∀ a0 a1 k, LeO (poly_DivMod.f k a0 a1) (poly_DivMod.f (k + 1) a0 a1) := by
  intro a0 a1 k
  have ih0 := poly_DivMod.mono_l k
  unfold poly_DivMod.f
  repeat' first
      | (with_reducible exact ih0 _ _ _)
      | (with_reducible exact poly_Degree.mono _ _)
      | (with_reducible exact poly_divide.mono _ _ _)
      | (with_reducible exact LeO.refl _)
      | (with_reducible exact LeO.none _)
      | (with_reducible refine LeO.ite ?_ ?_)
      | (with_reducible refine LeO.bind ?_ (fun _ => ?_))
      | exact ih0 _ _ _
      | exact poly_Degree.mono _ _
      | exact poly_divide.mono _ _ _
      | exact LeO.none _
      | refine LeO.ite ?_ ?_
      | refine LeO.bind ?_ (fun _ => ?_)
set_option maxHeartbeats 8000000 in
set_option maxRecDepth 100000 in
theorem poly_DivMod.calls (k : Nat) (A0 : Option Addr) (c0 : Nat) (l0 : List Int) (A1 : Option Addr) (c1 : Nat) (l1 : List Int) (r1 : List Int) (r2 : List Int) (r3 : Int) (w : World) (hLd : Laid w) (hr0 : Kd.C (Kd.int .u8) w A0 l0.length l0) (hc0 : l0.length ≤ c0) (hr1 : Kd.C (Kd.int .u8) w A1 l1.length l1) (hc1 : l1.length ≤ c1) (h : poly_DivMod.f k l0 l1 = some (r1, r2, r3)) :
    Calls Tryd.prog 31 #[.slice A0 l0.length c0, .slice A1 l1.length c1] w fun e w' => ∃ v0_ v1_ : Value, e = .returned (.tuple #[v0_, v1_, .int .i64 r3]) ∧ Kd.R (Kd.int .u8) 5 w' w.heap.size (fun k_ => some k_ ≠ (v1_ : Value).ownBlock) v0_ r1 ∧ Kd.R (Kd.int .u8) 5 w' w.heap.size (fun k_ => some k_ ≠ (v0_ : Value).ownBlock) v1_ r2 ∧ Below w.heap.size w w' := by
  have HLD := Aside0.mk hLd
  clear hLd
  have HR0 := Aside0.mk hr0
  have HC0 := Aside0.mk hc0
  clear hr0 hc0
  have HR1 := Aside0.mk hr1
  have HC1 := Aside0.mk hc1
  clear hr1 hc1
  have HB := Aside0.mk (Below.refl w.heap.size w)
  have H : (if (l0.length : Int) > 256 then (poly_DivMod.j0 k l0 l1 true) else (poly_DivMod.j0 k l0 l1 (decide ((l1.length : Int) > 256)))) = some (r1, r2, r3) := h
  clear h
  have HC3 := Aside0.mk H
  clear H
  go_enter Tryd.func31, Tryd.ntmps31
  go_upto_region 1 with (fail)
  go_cut [14] (fun v14 wc => ∃ (kq : Nat) (x14_2 : Bool), v14 = .bool x14_2 ∧ Aside0 (poly_DivMod.j0 kq l0 l1 x14_2 = some (r1, r2, r3)) ∧ Aside0 (kq ≤ k) ∧ Aside0 (Below w.heap.size w wc))
  case first =>
    have H := HC3.out
    clear HC3
    by_cases c4 : (l0.length : Int) > 256
    · rw [if_pos c4] at H
      have c4b0 : decide (256 < (l0.length : Int)) = true := decide_eq_true c4
      have c4b1 : decide (256 < l0.length) = true := decide_eq_true (by omega)
      clear c4
      (first | rw [c4b0] | rw [c4b1] | (simp only [i64_w, i32_w]; rw [c4b0]) | skip)
      have H' := Aside0.mk H
      clear H
      go_wp2
      go_meet
      case rel => exact ⟨_, (true), (by first | rfl | (simp; done) | (simp [*]; done)), H', ⟨by first | omega | exact Nat.le_refl _⟩, ⟨by repeat (first | (with_reducible first | exact HB.out | apply below_alloc | apply pw_below_drewN | apply below_drew1) | exact HB.out)⟩⟩
    · rw [if_neg c4] at H
      have c4b0 : decide (256 < (l0.length : Int)) = false := decide_eq_false c4
      have c4b1 : decide (256 < l0.length) = false := decide_eq_false (by omega)
      clear c4
      (first | rw [c4b0] | rw [c4b1] | (simp only [i64_w, i32_w]; rw [c4b0]) | skip)
      have H' := Aside0.mk H
      clear H
      go_wp2
      go_meet
      case rel => exact ⟨_, (decide ((l1.length : Int) > 256)), (by first | rfl | (simp; done) | (simp [*]; done)), H', ⟨by first | omega | exact Nat.le_refl _⟩, ⟨by repeat (first | (with_reducible first | exact HB.out | apply below_alloc | apply pw_below_drewN | apply below_drew1) | exact HB.out)⟩⟩
  case rest =>
    clear HC3
    try clear c1
    try clear p2
    try clear c3
    try clear c4
    try clear c4b0
    try clear c4b1
    obtain ⟨kq, x14_2, rfl, HA, HJ2, HB⟩ := hcut
    cases kq with
    | zero => exact absurd HA.out (by simp [poly_DivMod.j0])
    | succ kj2 =>
      have H := HA.out
      clear HA
      simp only [poly_DivMod.j0] at H
      by_cases c5 : x14_2 = true
      · subst c5
        have H1 : (some (([] : List Int), ([] : List Int), 2)) = some (r1, r2, r3) := by rw [if_pos rfl] at H; exact H
        clear H
        have H := H1
        clear H1
        simp only [Option.some.injEq, Prod.mk.injEq] at H
        obtain ⟨rfl, rfl, rfl⟩ := H
        go_wp2
        go_ret3
        exact ⟨_, _, by first | rfl | (simp [errW_none, errW_some] <;> rfl) | (simp [*, errW_none, errW_some] <;> rfl), by first | exact Kd.R_nil _ _ _ _ _ | exact Kd.N_nil _ _ _ _ _ | exact Kd.V_nil _ _ _ _ _ | exact Kd.Q_nil _ _ _ _ _ | exact Kd.S_nil _ _ _ _ _, by first | exact Kd.R_nil _ _ _ _ _ | exact Kd.N_nil _ _ _ _ _ | exact Kd.V_nil _ _ _ _ _ | exact Kd.Q_nil _ _ _ _ _ | exact Kd.S_nil _ _ _ _ _, by repeat (first | (with_reducible first | exact HB.out | apply below_alloc | apply pw_below_drewN | apply below_drew1) | exact HB.out)⟩
      · replace c5 := Bool.eq_false_iff.mpr c5
        subst c5
        have H1 : ((poly_Degree.f kj2 l1).bind fun t249 => (if t249 < 0 then (some (([] : List Int), ([] : List Int), 1)) else ((poly_divide.f kj2 l0 l1).bind fun bt250 => (some (bt250.1, bt250.2, 0))))) = some (r1, r2, r3) := by rw [if_neg (show ¬ (false = true) by decide)] at H; exact H
        clear H
        have H := H1
        clear H1
        replace H := Option.bind_eq_some_iff.mp H
        obtain ⟨t249, A60, H⟩ := H
        replace H : (if t249 < 0 then (some (([] : List Int), ([] : List Int), 1)) else ((poly_divide.f kj2 l0 l1).bind fun bt250 => (some (bt250.1, bt250.2, 0)))) = some (r1, r2, r3) := H
        have A6 := Aside0.mk A60
        clear A60
        by_cases c7 : t249 < 0
        · rw [if_pos c7] at H
          have c7b0 : decide (t249 < 0) = true := decide_eq_true c7
          clear c7
          simp only [Option.some.injEq, Prod.mk.injEq] at H
          obtain ⟨rfl, rfl, rfl⟩ := H
          go_wp2_with (first | ((with_reducible refine gate_callee (f := 25) rfl ?_); refine goesL_ (some 16) rfl rfl Tryd.func25 (by kernel_rfl) rfl #[.slice A1 l1.length c1] rfl (by (try simp only [List.map_toArray, List.map_cons, List.map_nil]); first | done | rfl | (simp only [List.length_drop, List.length_take]; rfl)) ?_; (with_reducible refine (poly_Degree.calls kj2 _ _ l1 t249 _ ?side1 ?side2 A6.out).mono ?_); (case side1 => repeat (first | exact (Kd.C_below HR1.out HB.out) | (with_reducible refine Kd.C_alloc ?_ _) | (with_reducible refine Kd.C_drewN ?_ _) | (with_reducible refine Kd.C_drew ?_))); (case side2 => exact HC1.out); rintro e w' ⟨rfl, ⟨nd, rfl⟩⟩; refine ⟨_, rfl, ?_⟩))
          go_ret3
          exact ⟨_, _, by first | rfl | (simp [errW_none, errW_some] <;> rfl) | (simp [*, errW_none, errW_some] <;> rfl), by first | exact Kd.R_nil _ _ _ _ _ | exact Kd.N_nil _ _ _ _ _ | exact Kd.V_nil _ _ _ _ _ | exact Kd.Q_nil _ _ _ _ _ | exact Kd.S_nil _ _ _ _ _, by first | exact Kd.R_nil _ _ _ _ _ | exact Kd.N_nil _ _ _ _ _ | exact Kd.V_nil _ _ _ _ _ | exact Kd.Q_nil _ _ _ _ _ | exact Kd.S_nil _ _ _ _ _, by repeat (first | (with_reducible first | exact HB.out | apply below_alloc | apply pw_below_drewN | apply below_drew1) | exact HB.out)⟩
        · rw [if_neg c7] at H
          have c7b0 : decide (t249 < 0) = false := decide_eq_false c7
          clear c7
          replace H := Option.bind_eq_some_iff.mp H
          obtain ⟨⟨t250, t251⟩, A80, H⟩ := H
          replace H : (some (t250, t251, 0)) = some (r1, r2, r3) := H
          have A8 := Aside0.mk A80
          clear A80
          simp only [Option.some.injEq, Prod.mk.injEq] at H
          obtain ⟨rfl, rfl, rfl⟩ := H
          go_wp2_with (first | ((with_reducible refine gate_callee (f := 25) rfl ?_); refine goesL_ (some 16) rfl rfl Tryd.func25 (by kernel_rfl) rfl #[.slice A1 l1.length c1] rfl (by (try simp only [List.map_toArray, List.map_cons, List.map_nil]); first | done | rfl | (simp only [List.length_drop, List.length_take]; rfl)) ?_; (with_reducible refine (poly_Degree.calls kj2 _ _ l1 t249 _ ?side1 ?side2 A6.out).mono ?_); (case side1 => repeat (first | exact (Kd.C_below HR1.out HB.out) | (with_reducible refine Kd.C_alloc ?_ _) | (with_reducible refine Kd.C_drewN ?_ _) | (with_reducible refine Kd.C_drew ?_))); (case side2 => exact HC1.out); rintro e w' ⟨rfl, ⟨nd, rfl⟩⟩; refine ⟨_, rfl, ?_⟩) | ((with_reducible refine gate_callee (f := 39) rfl ?_); refine goesL_ (some 21) rfl rfl Tryd.func39 (by kernel_rfl) rfl #[.slice A0 l0.length c0, .slice A1 l1.length c1] rfl (by (try simp only [List.map_toArray, List.map_cons, List.map_nil]); first | done | rfl | (simp only [List.length_drop, List.length_take]; rfl)) ?_; (with_reducible refine (poly_divide.calls kj2 _ _ l0 _ _ l1 t250 t251 _ ?side5 ?side1 ?side2 ?side3 ?side4 A8.out).mono ?_); (case side1 => repeat (first | exact (Kd.C_below HR0.out (by repeat (first | (with_reducible first | exact HB.out | apply below_alloc | apply pw_below_drewN | apply below_drew1) | exact HB.out))) | (with_reducible refine Kd.C_alloc ?_ _) | (with_reducible refine Kd.C_drewN ?_ _) | (with_reducible refine Kd.C_drew ?_))); (case side2 => exact HC0.out); (case side3 => repeat (first | exact (Kd.C_below HR1.out (by repeat (first | (with_reducible first | exact HB.out | apply below_alloc | apply pw_below_drewN | apply below_drew1) | exact HB.out))) | (with_reducible refine Kd.C_alloc ?_ _) | (with_reducible refine Kd.C_drewN ?_ _) | (with_reducible refine Kd.C_drew ?_))); (case side4 => exact HC1.out); (case side5 => exact Kd.C_below HLD.out (by repeat (first | (with_reducible first | exact HB.out | apply below_alloc | apply pw_below_drewN | apply below_drew1) | exact HB.out))); rintro e w9 ⟨v252, v254, rfl, ho0, ho1, hb⟩; refine ⟨_, rfl, ?_⟩; have n0_ := Aside0.mk (Kd.R_lower ho0 (below_size (by repeat (first | (with_reducible first | exact HB.out | apply below_alloc | apply pw_below_drewN | apply below_drew1) | exact HB.out)))); have n1_ := Aside0.mk (Kd.R_lower ho1 (below_size (by repeat (first | (with_reducible first | exact HB.out | apply below_alloc | apply pw_below_drewN | apply below_drew1) | exact HB.out)))); have n2_ := Aside0.mk (below_step (by repeat (first | (with_reducible first | exact HB.out | apply below_alloc | apply pw_below_drewN | apply below_drew1) | exact HB.out)) hb); clear HB; have HO253 := n0_; have HO255 := n1_; have HB := n2_; clear n0_ n1_ n2_; (try clear hb); (try clear hb2); (try clear hk); (try clear hi); (try clear ho0); (try clear ho1)))
          go_ret3
          exact ⟨_, _, by first | rfl | (simp [errW_none, errW_some] <;> rfl) | (simp [*, errW_none, errW_some] <;> rfl), by (with_reducible repeat (first | apply Kd.R_alloc | apply Kd.R_drewN | apply Kd.R_drew)); exact HO253.out, by (with_reducible repeat (first | apply Kd.R_alloc | apply Kd.R_drewN | apply Kd.R_drew)); exact HO255.out, by repeat (first | (with_reducible first | exact HB.out | apply below_alloc | apply pw_below_drewN | apply below_drew1) | exact HB.out)⟩

/-! ### quietuslaw06_sanity: function 10 -/
def AllC (k : IntKind) (W : World) (L : List (Option Addr × List Int)) : Prop := ∀ p, p ∈ L → Kd.C (Kd.int k) W p.1 p.2.length p.2
theorem AllC.below {k : IntKind} {W W' : World} {L : List (Option Addr × List Int)} (h : AllC k W L) (hb : Below W.heap.size W W') : AllC k W' L := fun p hp => Kd.C_below (h p hp) hb
theorem AllC.drewN {k : IntKind} {W : World} {L : List (Option Addr × List Int)} (h : AllC k W L) (n : Nat) : AllC k (W.drewN n) L := fun p hp => Kd.C_drewN (h p hp) n
theorem AllC.cons {k : IntKind} {W : World} {L : List (Option Addr × List Int)} (h : AllC k W L) {A : Option Addr} {l : List Int} (hn : Kd.C (Kd.int k) W A l.length l) : AllC k W ((A, l) :: L) := fun p hp => by
  rcases List.mem_cons.1 hp with rfl | hp
  · exact hn
  · exact h p hp
theorem AllC.nil (k : IntKind) (W : World) : AllC k W [] := fun p hp => by cases hp
theorem AllC.t {k : IntKind} {W : World} {p : Option Addr × List Int} {L : List (Option Addr × List Int)} (h : AllC k W (p :: L)) : AllC k W L := fun q hq => h q (List.mem_cons_of_mem _ hq)
theorem AllC.g0 {k : IntKind} {W : World} {A : Option Addr} {l : List Int} {L : List (Option Addr × List Int)} (h : AllC k W ((A, l) :: L)) : Kd.C (Kd.int k) W A l.length l := h (A, l) (List.mem_cons_self ..)
def quietuslaw06_sanity.f : Option Bool := some true
set_option maxHeartbeats 8000000 in
set_option maxRecDepth 100000 in
theorem quietuslaw06_sanity.calls (r : Bool) (w : World) (hLd : Laid w) (h : quietuslaw06_sanity.f = some r) :
    Calls Tryd.prog 10 #[] w fun e w' => e = .returned (.bool r) ∧ Below w.heap.size w w' := by
  obtain rfl := Option.some.inj h
  clear h
  have HLD := Aside0.mk hLd
  clear hLd
  have HB := Aside0.mk (Below.refl w.heap.size w)
  have Hu8 := Aside0.mk (AllC.nil .u8 w)
  have Hi64 := Aside0.mk (AllC.nil .i64 w)
  obtain ⟨y1, hy1⟩ : ∃ y_ : List Int, y_ = ([1, 2, 3] : List Int) := ⟨_, rfl⟩
  obtain ⟨y2, hy2⟩ : ∃ y_ : List Int, y_ = ([1, 1] : List Int) := ⟨_, rfl⟩
  obtain ⟨y3, hy3⟩ : ∃ y_ : List Int, y_ = ([1, 1] : List Int) := ⟨_, rfl⟩
  obtain ⟨y4, hy4⟩ : ∃ y_ : List Int, y_ = ([1, 0, 1] : List Int) := ⟨_, rfl⟩
  obtain ⟨y5, hy5⟩ : ∃ y_ : List Int, y_ = ([1, 0, 1] : List Int) := ⟨_, rfl⟩
  obtain ⟨y6, hy6⟩ : ∃ y_ : List Int, y_ = ([1, 1] : List Int) := ⟨_, rfl⟩
  obtain ⟨y7, hy7⟩ : ∃ y_ : List Int, y_ = ([1, 1] : List Int) := ⟨_, rfl⟩
  obtain ⟨y8, hy8⟩ : ∃ y_ : List Int, y_ = ([] : List Int) := ⟨_, rfl⟩
  obtain ⟨y9, hy9⟩ : ∃ y_ : List Int, y_ = ([0, 0] : List Int) := ⟨_, rfl⟩
  obtain ⟨y10, hy10⟩ : ∃ y_ : List Int, y_ = ([] : List Int) := ⟨_, rfl⟩
  obtain ⟨y11, hy11⟩ : ∃ y_ : List Int, y_ = ([] : List Int) := ⟨_, rfl⟩
  obtain ⟨y12, hy12⟩ : ∃ y_ : List Int, y_ = ([0, 1, 2] : List Int) := ⟨_, rfl⟩
  obtain ⟨y13, hy13⟩ : ∃ y_ : List Int, y_ = ([1, 0, 9] : List Int) := ⟨_, rfl⟩
  obtain ⟨y14, hy14⟩ : ∃ y_ : List Int, y_ = ([1, 2, 3] : List Int) := ⟨_, rfl⟩
  obtain ⟨y15, hy15⟩ : ∃ y_ : List Int, y_ = ([0, 1, 2] : List Int) := ⟨_, rfl⟩
  obtain ⟨y16, hy16⟩ : ∃ y_ : List Int, y_ = ([1, 0, 9] : List Int) := ⟨_, rfl⟩
  obtain ⟨y17, hy17⟩ : ∃ y_ : List Int, y_ = ([] : List Int) := ⟨_, rfl⟩
  obtain ⟨y18, hy18⟩ : ∃ y_ : List Int, y_ = ([0, 1, 2] : List Int) := ⟨_, rfl⟩
  obtain ⟨y19, hy19⟩ : ∃ y_ : List Int, y_ = ([1, 0, 9] : List Int) := ⟨_, rfl⟩
  obtain ⟨y20, hy20⟩ : ∃ y_ : List Int, y_ = ([1, 2, 3] : List Int) := ⟨_, rfl⟩
  obtain ⟨y21, hy21⟩ : ∃ y_ : List Int, y_ = ([0, 1, 2, 3, 4, 5] : List Int) := ⟨_, rfl⟩
  obtain ⟨y22, hy22⟩ : ∃ y_ : List Int, y_ = ([1, 0, 7, 8, 57, 56] : List Int) := ⟨_, rfl⟩
  obtain ⟨y23, hy23⟩ : ∃ y_ : List Int, y_ = ([1, 2, 3] : List Int) := ⟨_, rfl⟩
  obtain ⟨y24, hy24⟩ : ∃ y_ : List Int, y_ = ([2] : List Int) := ⟨_, rfl⟩
  obtain ⟨y25, hy25⟩ : ∃ y_ : List Int, y_ = ([0, 1, 2] : List Int) := ⟨_, rfl⟩
  obtain ⟨y26, hy26⟩ : ∃ y_ : List Int, y_ = ([1, 0, 9] : List Int) := ⟨_, rfl⟩
  obtain ⟨y27, hy27⟩ : ∃ y_ : List Int, y_ = ([] : List Int) := ⟨_, rfl⟩
  obtain ⟨y28, hy28⟩ : ∃ y_ : List Int, y_ = ([] : List Int) := ⟨_, rfl⟩
  obtain ⟨y29, hy29⟩ : ∃ y_ : List Int, y_ = ([1, 0, 1] : List Int) := ⟨_, rfl⟩
  obtain ⟨y30, hy30⟩ : ∃ y_ : List Int, y_ = ([1, 1] : List Int) := ⟨_, rfl⟩
  obtain ⟨y31, hy31⟩ : ∃ y_ : List Int, y_ = ([2] : List Int) := ⟨_, rfl⟩
  obtain ⟨y32, hy32⟩ : ∃ y_ : List Int, y_ = ([5, 0, 0] : List Int) := ⟨_, rfl⟩
  obtain ⟨y33, hy33⟩ : ∃ y_ : List Int, y_ = ([0, 0] : List Int) := ⟨_, rfl⟩
  obtain ⟨y34, hy34⟩ : ∃ y_ : List Int, y_ = ([5, 0, 0] : List Int) := ⟨_, rfl⟩
  obtain ⟨y35, hy35⟩ : ∃ y_ : List Int, y_ = ([5] : List Int) := ⟨_, rfl⟩
  obtain ⟨y36, hy36⟩ : ∃ y_ : List Int, y_ = ([5] : List Int) := ⟨_, rfl⟩
  have P1 : poly_Mul.f 60 y2 y3 = some (y4, 0) := by rw [hy2, hy3, hy4]; decide +kernel
  have P2 : poly_DivMod.f 60 y5 y6 = some (y7, y8, 0) := by rw [hy5, hy6, hy7, hy8]; decide +kernel
  have P3 : poly_DivMod.f 60 y1 y9 = some (y10, y11, 1) := by rw [hy1, hy9, hy10, hy11]; decide +kernel
  have P4 : poly_Interpolate.f 60 y12 y13 = some (y14, 0) := by rw [hy12, hy13, hy14]; decide +kernel
  have P5 : poly_Through.f 60 y15 y16 1 = some (y17, 8) := by rw [hy15, hy16, hy17]; decide +kernel
  have P6 : poly_Through.f 60 y18 y19 2 = some (y20, 0) := by rw [hy18, hy19, hy20]; decide +kernel
  have P7 : poly_Decode.f 60 y21 y22 2 1 = some (y23, y24, 0) := by rw [hy21, hy22, hy23, hy24]; decide +kernel
  have P8 : poly_Decode.f 60 y25 y26 1 1 = some (y27, y28, 3) := by rw [hy25, hy26, hy27, hy28]; decide +kernel
  have P9 : quietusref06_Same.f 60 y4 y29 = some true := by rw [hy4, hy29]; decide +kernel
  have P10 : quietusref06_Same.f 60 y7 y30 = some true := by rw [hy7, hy30]; decide +kernel
  have P11 : quietusref06_Same.f 60 y14 y1 = some true := by rw [hy1, hy14]; decide +kernel
  have P12 : quietusref06_Same.f 60 y20 y1 = some true := by rw [hy1, hy20]; decide +kernel
  have P13 : quietusref06_Same.f 60 y23 y1 = some true := by rw [hy1, hy23]; decide +kernel
  have P14 : quietusref06_SameInts.f 60 y24 y31 = some true := by rw [hy24, hy31]; decide +kernel
  have P15 : poly_Eval.f 60 y1 2 = some 9 := by rw [hy1]; decide +kernel
  have P16 : poly_Eval.f 60 y1 0 = some 1 := by rw [hy1]; decide +kernel
  have P17 : poly_Degree.f 60 y32 = some 0 := by rw [hy32]; decide +kernel
  have P18 : poly_Degree.f 60 y33 = some (-1) := by rw [hy33]; decide +kernel
  have P19 : poly_Trim.f 60 y34 = some y35 := by rw [hy34, hy35]; decide +kernel
  have P20 : quietusref06_Same.f 60 y35 y36 = some true := by rw [hy35, hy36]; decide +kernel
  have E8 : ((y8.length : Int) == 0) = true := by rw [hy8]; rfl
  have En8 : (y8.length == 0) = true := by rw [hy8]; rfl
  replace P1 := Aside0.mk P1
  replace P2 := Aside0.mk P2
  replace P3 := Aside0.mk P3
  replace P4 := Aside0.mk P4
  replace P5 := Aside0.mk P5
  replace P6 := Aside0.mk P6
  replace P7 := Aside0.mk P7
  replace P8 := Aside0.mk P8
  replace P9 := Aside0.mk P9
  replace P10 := Aside0.mk P10
  replace P11 := Aside0.mk P11
  replace P12 := Aside0.mk P12
  replace P13 := Aside0.mk P13
  replace P14 := Aside0.mk P14
  replace P15 := Aside0.mk P15
  replace P16 := Aside0.mk P16
  replace P17 := Aside0.mk P17
  replace P18 := Aside0.mk P18
  replace P19 := Aside0.mk P19
  replace P20 := Aside0.mk P20
  have Y1 := Aside0.mk hy1
  clear hy1
  have Y2 := Aside0.mk hy2
  clear hy2
  have Y3 := Aside0.mk hy3
  clear hy3
  have Y4 := Aside0.mk hy4
  clear hy4
  have Y5 := Aside0.mk hy5
  clear hy5
  have Y6 := Aside0.mk hy6
  clear hy6
  have Y7 := Aside0.mk hy7
  clear hy7
  have Y8 := Aside0.mk hy8
  clear hy8
  have Y9 := Aside0.mk hy9
  clear hy9
  have Y10 := Aside0.mk hy10
  clear hy10
  have Y11 := Aside0.mk hy11
  clear hy11
  have Y12 := Aside0.mk hy12
  clear hy12
  have Y13 := Aside0.mk hy13
  clear hy13
  have Y14 := Aside0.mk hy14
  clear hy14
  have Y15 := Aside0.mk hy15
  clear hy15
  have Y16 := Aside0.mk hy16
  clear hy16
  have Y17 := Aside0.mk hy17
  clear hy17
  have Y18 := Aside0.mk hy18
  clear hy18
  have Y19 := Aside0.mk hy19
  clear hy19
  have Y20 := Aside0.mk hy20
  clear hy20
  have Y21 := Aside0.mk hy21
  clear hy21
  have Y22 := Aside0.mk hy22
  clear hy22
  have Y23 := Aside0.mk hy23
  clear hy23
  have Y24 := Aside0.mk hy24
  clear hy24
  have Y25 := Aside0.mk hy25
  clear hy25
  have Y26 := Aside0.mk hy26
  clear hy26
  have Y27 := Aside0.mk hy27
  clear hy27
  have Y28 := Aside0.mk hy28
  clear hy28
  have Y29 := Aside0.mk hy29
  clear hy29
  have Y30 := Aside0.mk hy30
  clear hy30
  have Y31 := Aside0.mk hy31
  clear hy31
  have Y32 := Aside0.mk hy32
  clear hy32
  have Y33 := Aside0.mk hy33
  clear hy33
  have Y34 := Aside0.mk hy34
  clear hy34
  have Y35 := Aside0.mk hy35
  clear hy35
  have Y36 := Aside0.mk hy36
  clear hy36
  go_enter Tryd.func10, Tryd.ntmps10
  go_upto_region 2 with (first | ((with_reducible refine gate_dst (N := 23) rfl ?_); (try (refine gate_guard (by rfl) ?_; dsimp only)); refine Kd.R_lit (Kd.int .u8) _ 5 ?hg (N := 23) ?hd (xs := ([1, 2, 3] : List Int)) (inner := [.int .u8 1, .int .u8 2, .int .u8 3]) (ok := fun _ => True) (okp := fun _ => True) ?hr ?hp (fun _ hk => hk) trivial (Below.refl _ _) (Nat.le_refl _) (by simp) ?_; (case hd => rfl); (case hg => rfl); (case hr => first | (go_simp; done) | (go_simp; rfl)); (case hp => exact (Reps.one (show Kd.M (Kd.int .u8) _ _ _ 1 [.int .u8 1] from rfl) (Reps.one (show Kd.M (Kd.int .u8) _ _ _ 2 [.int .u8 2] from rfl) (Reps.one (show Kd.M (Kd.int .u8) _ _ _ 3 [.int .u8 3] from rfl) (Reps.none _ _))))); intro v1 w1 ho hb hg_ hnew_; clear hg_ hnew_; rw [← Y1.out] at ho; obtain ⟨A1, c1, e_⟩ := Kd.R_slice ho; subst e_; have n1_ := Aside0.mk (below_step HB.out hb); have nu8_ := Aside0.mk (AllC.cons (AllC.below Hu8.out hb) (Kd.R_reads' ho).2.2); have ni64_ := Aside0.mk (AllC.below Hi64.out hb); have L1 := Aside0.mk (Kd.R_reads' ho).2.1; clear HB Hu8 Hi64 hb; have HB := n1_; have Hu8 := nu8_; have Hi64 := ni64_; clear n1_ nu8_ ni64_; clear ho))
  go_upto_region 3 with (first | ((with_reducible refine gate_dst (N := 25) rfl ?_); (try (refine gate_guard (by rfl) ?_; dsimp only)); refine Kd.R_lit (Kd.int .u8) _ 5 ?hg (N := 25) ?hd (xs := ([1, 1] : List Int)) (inner := [.int .u8 1, .int .u8 1]) (ok := fun _ => True) (okp := fun _ => True) ?hr ?hp (fun _ hk => hk) trivial (Below.refl _ _) (Nat.le_refl _) (by simp) ?_; (case hd => rfl); (case hg => rfl); (case hr => first | (go_simp; done) | (go_simp; rfl)); (case hp => exact (Reps.one (show Kd.M (Kd.int .u8) _ _ _ 1 [.int .u8 1] from rfl) (Reps.one (show Kd.M (Kd.int .u8) _ _ _ 1 [.int .u8 1] from rfl) (Reps.none _ _)))); intro v2 w2 ho hb hg_ hnew_; clear hg_ hnew_; rw [← Y2.out] at ho; obtain ⟨A2, c2, e_⟩ := Kd.R_slice ho; subst e_; have n1_ := Aside0.mk (below_step HB.out hb); have nu8_ := Aside0.mk (AllC.cons (AllC.below Hu8.out hb) (Kd.R_reads' ho).2.2); have ni64_ := Aside0.mk (AllC.below Hi64.out hb); have L2 := Aside0.mk (Kd.R_reads' ho).2.1; clear HB Hu8 Hi64 hb; have HB := n1_; have Hu8 := nu8_; have Hi64 := ni64_; clear n1_ nu8_ ni64_; clear ho) | ((with_reducible refine gate_dst (N := 26) rfl ?_); (try (refine gate_guard (by rfl) ?_; dsimp only)); refine Kd.R_lit (Kd.int .u8) _ 5 ?hg (N := 26) ?hd (xs := ([1, 1] : List Int)) (inner := [.int .u8 1, .int .u8 1]) (ok := fun _ => True) (okp := fun _ => True) ?hr ?hp (fun _ hk => hk) trivial (Below.refl _ _) (Nat.le_refl _) (by simp) ?_; (case hd => rfl); (case hg => rfl); (case hr => first | (go_simp; done) | (go_simp; rfl)); (case hp => exact (Reps.one (show Kd.M (Kd.int .u8) _ _ _ 1 [.int .u8 1] from rfl) (Reps.one (show Kd.M (Kd.int .u8) _ _ _ 1 [.int .u8 1] from rfl) (Reps.none _ _)))); intro v3 w3 ho hb hg_ hnew_; clear hg_ hnew_; rw [← Y3.out] at ho; obtain ⟨A3, c3, e_⟩ := Kd.R_slice ho; subst e_; have n1_ := Aside0.mk (below_step HB.out hb); have nu8_ := Aside0.mk (AllC.cons (AllC.below Hu8.out hb) (Kd.R_reads' ho).2.2); have ni64_ := Aside0.mk (AllC.below Hi64.out hb); have L3 := Aside0.mk (Kd.R_reads' ho).2.1; clear HB Hu8 Hi64 hb; have HB := n1_; have Hu8 := nu8_; have Hi64 := ni64_; clear n1_ nu8_ ni64_; clear ho) | ((with_reducible refine gate_callee (f := 30) rfl ?_); refine goesL_ (some 27) rfl rfl Tryd.func30 (by kernel_rfl) rfl #[.slice A2 y2.length c2, .slice A3 y3.length c3] rfl (by (try simp only [List.map_toArray, List.map_cons, List.map_nil]); first | done | rfl) ?_; (with_reducible refine (poly_Mul.calls 60 A2 c2 y2 A3 c3 y3 y4 0 _ (Kd.C_below HLD.out HB.out) Hu8.out.t.g0 L2.out Hu8.out.g0 L3.out P1.out).mono ?_); rintro e w901 ⟨v4, rfl, ho4, hb⟩; refine ⟨_, rfl, ?_⟩; obtain ⟨A4, c4, e_⟩ := Kd.R_slice ho4; subst e_; have n1_ := Aside0.mk (below_step HB.out hb); have nu8_ := Aside0.mk (AllC.cons (AllC.below Hu8.out hb) (Kd.R_reads' ho4).2.2); have ni64_ := Aside0.mk (AllC.below Hi64.out hb); have L4 := Aside0.mk (Kd.R_reads' ho4).2.1; clear HB Hu8 Hi64 hb; have HB := n1_; have Hu8 := nu8_; have Hi64 := ni64_; clear n1_ nu8_ ni64_; clear ho4))
  go_upto_region 4 with (first | ((with_reducible refine gate_dst (N := 31) rfl ?_); (try (refine gate_guard (by rfl) ?_; dsimp only)); refine Kd.R_lit (Kd.int .u8) _ 5 ?hg (N := 31) ?hd (xs := ([1, 0, 1] : List Int)) (inner := [.int .u8 1, .int .u8 0, .int .u8 1]) (ok := fun _ => True) (okp := fun _ => True) ?hr ?hp (fun _ hk => hk) trivial (Below.refl _ _) (Nat.le_refl _) (by simp) ?_; (case hd => rfl); (case hg => rfl); (case hr => first | (go_simp; done) | (go_simp; rfl)); (case hp => exact (Reps.one (show Kd.M (Kd.int .u8) _ _ _ 1 [.int .u8 1] from rfl) (Reps.one (show Kd.M (Kd.int .u8) _ _ _ 0 [.int .u8 0] from rfl) (Reps.one (show Kd.M (Kd.int .u8) _ _ _ 1 [.int .u8 1] from rfl) (Reps.none _ _))))); intro v5 w5 ho hb hg_ hnew_; clear hg_ hnew_; rw [← Y5.out] at ho; obtain ⟨A5, c5, e_⟩ := Kd.R_slice ho; subst e_; have n1_ := Aside0.mk (below_step HB.out hb); have nu8_ := Aside0.mk (AllC.cons (AllC.below Hu8.out hb) (Kd.R_reads' ho).2.2); have ni64_ := Aside0.mk (AllC.below Hi64.out hb); have L5 := Aside0.mk (Kd.R_reads' ho).2.1; clear HB Hu8 Hi64 hb; have HB := n1_; have Hu8 := nu8_; have Hi64 := ni64_; clear n1_ nu8_ ni64_; clear ho) | ((with_reducible refine gate_dst (N := 32) rfl ?_); (try (refine gate_guard (by rfl) ?_; dsimp only)); refine Kd.R_lit (Kd.int .u8) _ 5 ?hg (N := 32) ?hd (xs := ([1, 1] : List Int)) (inner := [.int .u8 1, .int .u8 1]) (ok := fun _ => True) (okp := fun _ => True) ?hr ?hp (fun _ hk => hk) trivial (Below.refl _ _) (Nat.le_refl _) (by simp) ?_; (case hd => rfl); (case hg => rfl); (case hr => first | (go_simp; done) | (go_simp; rfl)); (case hp => exact (Reps.one (show Kd.M (Kd.int .u8) _ _ _ 1 [.int .u8 1] from rfl) (Reps.one (show Kd.M (Kd.int .u8) _ _ _ 1 [.int .u8 1] from rfl) (Reps.none _ _)))); intro v6 w6 ho hb hg_ hnew_; clear hg_ hnew_; rw [← Y6.out] at ho; obtain ⟨A6, c6, e_⟩ := Kd.R_slice ho; subst e_; have n1_ := Aside0.mk (below_step HB.out hb); have nu8_ := Aside0.mk (AllC.cons (AllC.below Hu8.out hb) (Kd.R_reads' ho).2.2); have ni64_ := Aside0.mk (AllC.below Hi64.out hb); have L6 := Aside0.mk (Kd.R_reads' ho).2.1; clear HB Hu8 Hi64 hb; have HB := n1_; have Hu8 := nu8_; have Hi64 := ni64_; clear n1_ nu8_ ni64_; clear ho) | ((with_reducible refine gate_callee (f := 31) rfl ?_); refine goesL_ (some 33) rfl rfl Tryd.func31 (by kernel_rfl) rfl #[.slice A5 y5.length c5, .slice A6 y6.length c6] rfl (by (try simp only [List.map_toArray, List.map_cons, List.map_nil]); first | done | rfl) ?_; (with_reducible refine (poly_DivMod.calls 60 A5 c5 y5 A6 c6 y6 y7 y8 0 _ (Kd.C_below HLD.out HB.out) Hu8.out.t.g0 L5.out Hu8.out.g0 L6.out P2.out).mono ?_); rintro e w902 ⟨v7, v8, rfl, ho7, ho8, hb⟩; refine ⟨_, rfl, ?_⟩; obtain ⟨A7, c7, e_⟩ := Kd.R_slice ho7; subst e_; obtain ⟨A8, c8, e_⟩ := Kd.R_slice ho8; subst e_; have n1_ := Aside0.mk (below_step HB.out hb); have nu8_ := Aside0.mk (AllC.cons (AllC.cons (AllC.below Hu8.out hb) (Kd.R_reads' ho7).2.2) (Kd.R_reads' ho8).2.2); have ni64_ := Aside0.mk (AllC.below Hi64.out hb); have L7 := Aside0.mk (Kd.R_reads' ho7).2.1; have L8 := Aside0.mk (Kd.R_reads' ho8).2.1; clear HB Hu8 Hi64 hb; have HB := n1_; have Hu8 := nu8_; have Hi64 := ni64_; clear n1_ nu8_ ni64_; clear ho7 ho8))
  go_upto_region 5 with (first | ((with_reducible refine gate_dst (N := 39) rfl ?_); (try (refine gate_guard (by rfl) ?_; dsimp only)); refine Kd.R_lit (Kd.int .u8) _ 5 ?hg (N := 39) ?hd (xs := ([0, 0] : List Int)) (inner := [.int .u8 0, .int .u8 0]) (ok := fun _ => True) (okp := fun _ => True) ?hr ?hp (fun _ hk => hk) trivial (Below.refl _ _) (Nat.le_refl _) (by simp) ?_; (case hd => rfl); (case hg => rfl); (case hr => first | (go_simp; done) | (go_simp; rfl)); (case hp => exact (Reps.one (show Kd.M (Kd.int .u8) _ _ _ 0 [.int .u8 0] from rfl) (Reps.one (show Kd.M (Kd.int .u8) _ _ _ 0 [.int .u8 0] from rfl) (Reps.none _ _)))); intro v9 w9 ho hb hg_ hnew_; clear hg_ hnew_; rw [← Y9.out] at ho; obtain ⟨A9, c9, e_⟩ := Kd.R_slice ho; subst e_; have n1_ := Aside0.mk (below_step HB.out hb); have nu8_ := Aside0.mk (AllC.cons (AllC.below Hu8.out hb) (Kd.R_reads' ho).2.2); have ni64_ := Aside0.mk (AllC.below Hi64.out hb); have L9 := Aside0.mk (Kd.R_reads' ho).2.1; clear HB Hu8 Hi64 hb; have HB := n1_; have Hu8 := nu8_; have Hi64 := ni64_; clear n1_ nu8_ ni64_; clear ho) | ((with_reducible refine gate_callee (f := 31) rfl ?_); refine goesL_ (some 40) rfl rfl Tryd.func31 (by kernel_rfl) rfl #[.slice A1 y1.length c1, .slice A9 y9.length c9] rfl (by (try simp only [List.map_toArray, List.map_cons, List.map_nil]); first | done | rfl) ?_; (with_reducible refine (poly_DivMod.calls 60 A1 c1 y1 A9 c9 y9 y10 y11 1 _ (Kd.C_below HLD.out HB.out) Hu8.out.t.t.t.t.t.t.t.t.g0 L1.out Hu8.out.g0 L9.out P3.out).mono ?_); rintro e w903 ⟨v10, v11, rfl, ho10, ho11, hb⟩; refine ⟨_, rfl, ?_⟩; obtain ⟨A10, c10, e_⟩ := Kd.R_slice ho10; subst e_; obtain ⟨A11, c11, e_⟩ := Kd.R_slice ho11; subst e_; have n1_ := Aside0.mk (below_step HB.out hb); have nu8_ := Aside0.mk (AllC.cons (AllC.cons (AllC.below Hu8.out hb) (Kd.R_reads' ho10).2.2) (Kd.R_reads' ho11).2.2); have ni64_ := Aside0.mk (AllC.below Hi64.out hb); have L10 := Aside0.mk (Kd.R_reads' ho10).2.1; have L11 := Aside0.mk (Kd.R_reads' ho11).2.1; clear HB Hu8 Hi64 hb; have HB := n1_; have Hu8 := nu8_; have Hi64 := ni64_; clear n1_ nu8_ ni64_; clear ho10 ho11))
  go_upto_region 6 with (first | ((with_reducible refine gate_dst (N := 45) rfl ?_); (try (refine gate_guard (by rfl) ?_; dsimp only)); refine Kd.R_lit (Kd.int .u8) _ 5 ?hg (N := 45) ?hd (xs := ([0, 1, 2] : List Int)) (inner := [.int .u8 0, .int .u8 1, .int .u8 2]) (ok := fun _ => True) (okp := fun _ => True) ?hr ?hp (fun _ hk => hk) trivial (Below.refl _ _) (Nat.le_refl _) (by simp) ?_; (case hd => rfl); (case hg => rfl); (case hr => first | (go_simp; done) | (go_simp; rfl)); (case hp => exact (Reps.one (show Kd.M (Kd.int .u8) _ _ _ 0 [.int .u8 0] from rfl) (Reps.one (show Kd.M (Kd.int .u8) _ _ _ 1 [.int .u8 1] from rfl) (Reps.one (show Kd.M (Kd.int .u8) _ _ _ 2 [.int .u8 2] from rfl) (Reps.none _ _))))); intro v12 w12 ho hb hg_ hnew_; clear hg_ hnew_; rw [← Y12.out] at ho; obtain ⟨A12, c12, e_⟩ := Kd.R_slice ho; subst e_; have n1_ := Aside0.mk (below_step HB.out hb); have nu8_ := Aside0.mk (AllC.cons (AllC.below Hu8.out hb) (Kd.R_reads' ho).2.2); have ni64_ := Aside0.mk (AllC.below Hi64.out hb); have L12 := Aside0.mk (Kd.R_reads' ho).2.1; clear HB Hu8 Hi64 hb; have HB := n1_; have Hu8 := nu8_; have Hi64 := ni64_; clear n1_ nu8_ ni64_; clear ho) | ((with_reducible refine gate_dst (N := 46) rfl ?_); (try (refine gate_guard (by rfl) ?_; dsimp only)); refine Kd.R_lit (Kd.int .u8) _ 5 ?hg (N := 46) ?hd (xs := ([1, 0, 9] : List Int)) (inner := [.int .u8 1, .int .u8 0, .int .u8 9]) (ok := fun _ => True) (okp := fun _ => True) ?hr ?hp (fun _ hk => hk) trivial (Below.refl _ _) (Nat.le_refl _) (by simp) ?_; (case hd => rfl); (case hg => rfl); (case hr => first | (go_simp; done) | (go_simp; rfl)); (case hp => exact (Reps.one (show Kd.M (Kd.int .u8) _ _ _ 1 [.int .u8 1] from rfl) (Reps.one (show Kd.M (Kd.int .u8) _ _ _ 0 [.int .u8 0] from rfl) (Reps.one (show Kd.M (Kd.int .u8) _ _ _ 9 [.int .u8 9] from rfl) (Reps.none _ _))))); intro v13 w13 ho hb hg_ hnew_; clear hg_ hnew_; rw [← Y13.out] at ho; obtain ⟨A13, c13, e_⟩ := Kd.R_slice ho; subst e_; have n1_ := Aside0.mk (below_step HB.out hb); have nu8_ := Aside0.mk (AllC.cons (AllC.below Hu8.out hb) (Kd.R_reads' ho).2.2); have ni64_ := Aside0.mk (AllC.below Hi64.out hb); have L13 := Aside0.mk (Kd.R_reads' ho).2.1; clear HB Hu8 Hi64 hb; have HB := n1_; have Hu8 := nu8_; have Hi64 := ni64_; clear n1_ nu8_ ni64_; clear ho) | ((with_reducible refine gate_callee (f := 11) rfl ?_); refine goesL_ (some 47) rfl rfl Tryd.func11 (by kernel_rfl) rfl #[.slice A12 y12.length c12, .slice A13 y13.length c13] rfl (by (try simp only [List.map_toArray, List.map_cons, List.map_nil]); first | done | rfl) ?_; (with_reducible refine (poly_Interpolate.calls 60 A12 c12 y12 A13 c13 y13 y14 0 _ (Kd.C_below HLD.out HB.out) Hu8.out.t.g0 L12.out Hu8.out.g0 L13.out P4.out).mono ?_); rintro e w904 ⟨v14, rfl, ho14, hb⟩; refine ⟨_, rfl, ?_⟩; obtain ⟨A14, c14, e_⟩ := Kd.R_slice ho14; subst e_; have n1_ := Aside0.mk (below_step HB.out hb); have nu8_ := Aside0.mk (AllC.cons (AllC.below Hu8.out hb) (Kd.R_reads' ho14).2.2); have ni64_ := Aside0.mk (AllC.below Hi64.out hb); have L14 := Aside0.mk (Kd.R_reads' ho14).2.1; clear HB Hu8 Hi64 hb; have HB := n1_; have Hu8 := nu8_; have Hi64 := ni64_; clear n1_ nu8_ ni64_; clear ho14))
  go_upto_region 7 with (first | ((with_reducible refine gate_dst (N := 51) rfl ?_); (try (refine gate_guard (by rfl) ?_; dsimp only)); refine Kd.R_lit (Kd.int .u8) _ 5 ?hg (N := 51) ?hd (xs := ([0, 1, 2] : List Int)) (inner := [.int .u8 0, .int .u8 1, .int .u8 2]) (ok := fun _ => True) (okp := fun _ => True) ?hr ?hp (fun _ hk => hk) trivial (Below.refl _ _) (Nat.le_refl _) (by simp) ?_; (case hd => rfl); (case hg => rfl); (case hr => first | (go_simp; done) | (go_simp; rfl)); (case hp => exact (Reps.one (show Kd.M (Kd.int .u8) _ _ _ 0 [.int .u8 0] from rfl) (Reps.one (show Kd.M (Kd.int .u8) _ _ _ 1 [.int .u8 1] from rfl) (Reps.one (show Kd.M (Kd.int .u8) _ _ _ 2 [.int .u8 2] from rfl) (Reps.none _ _))))); intro v15 w15 ho hb hg_ hnew_; clear hg_ hnew_; rw [← Y15.out] at ho; obtain ⟨A15, c15, e_⟩ := Kd.R_slice ho; subst e_; have n1_ := Aside0.mk (below_step HB.out hb); have nu8_ := Aside0.mk (AllC.cons (AllC.below Hu8.out hb) (Kd.R_reads' ho).2.2); have ni64_ := Aside0.mk (AllC.below Hi64.out hb); have L15 := Aside0.mk (Kd.R_reads' ho).2.1; clear HB Hu8 Hi64 hb; have HB := n1_; have Hu8 := nu8_; have Hi64 := ni64_; clear n1_ nu8_ ni64_; clear ho) | ((with_reducible refine gate_dst (N := 52) rfl ?_); (try (refine gate_guard (by rfl) ?_; dsimp only)); refine Kd.R_lit (Kd.int .u8) _ 5 ?hg (N := 52) ?hd (xs := ([1, 0, 9] : List Int)) (inner := [.int .u8 1, .int .u8 0, .int .u8 9]) (ok := fun _ => True) (okp := fun _ => True) ?hr ?hp (fun _ hk => hk) trivial (Below.refl _ _) (Nat.le_refl _) (by simp) ?_; (case hd => rfl); (case hg => rfl); (case hr => first | (go_simp; done) | (go_simp; rfl)); (case hp => exact (Reps.one (show Kd.M (Kd.int .u8) _ _ _ 1 [.int .u8 1] from rfl) (Reps.one (show Kd.M (Kd.int .u8) _ _ _ 0 [.int .u8 0] from rfl) (Reps.one (show Kd.M (Kd.int .u8) _ _ _ 9 [.int .u8 9] from rfl) (Reps.none _ _))))); intro v16 w16 ho hb hg_ hnew_; clear hg_ hnew_; rw [← Y16.out] at ho; obtain ⟨A16, c16, e_⟩ := Kd.R_slice ho; subst e_; have n1_ := Aside0.mk (below_step HB.out hb); have nu8_ := Aside0.mk (AllC.cons (AllC.below Hu8.out hb) (Kd.R_reads' ho).2.2); have ni64_ := Aside0.mk (AllC.below Hi64.out hb); have L16 := Aside0.mk (Kd.R_reads' ho).2.1; clear HB Hu8 Hi64 hb; have HB := n1_; have Hu8 := nu8_; have Hi64 := ni64_; clear n1_ nu8_ ni64_; clear ho) | ((with_reducible refine gate_callee (f := 13) rfl ?_); refine goesL_ (some 53) rfl rfl Tryd.func13 (by kernel_rfl) rfl #[.slice A15 y15.length c15, .slice A16 y16.length c16, .int .i64 1] rfl (by (try simp only [List.map_toArray, List.map_cons, List.map_nil]); first | done | rfl) ?_; (with_reducible refine (poly_Through.calls 60 A15 c15 y15 A16 c16 y16 1 y17 8 _ (Kd.C_below HLD.out HB.out) Hu8.out.t.g0 L15.out Hu8.out.g0 L16.out P5.out).mono ?_); rintro e w905 ⟨v17, rfl, ho17, hb⟩; refine ⟨_, rfl, ?_⟩; obtain ⟨A17, c17, e_⟩ := Kd.R_slice ho17; subst e_; have n1_ := Aside0.mk (below_step HB.out hb); have nu8_ := Aside0.mk (AllC.cons (AllC.below Hu8.out hb) (Kd.R_reads' ho17).2.2); have ni64_ := Aside0.mk (AllC.below Hi64.out hb); have L17 := Aside0.mk (Kd.R_reads' ho17).2.1; clear HB Hu8 Hi64 hb; have HB := n1_; have Hu8 := nu8_; have Hi64 := ni64_; clear n1_ nu8_ ni64_; clear ho17))
  go_upto_region 8 with (first | ((with_reducible refine gate_dst (N := 57) rfl ?_); (try (refine gate_guard (by rfl) ?_; dsimp only)); refine Kd.R_lit (Kd.int .u8) _ 5 ?hg (N := 57) ?hd (xs := ([0, 1, 2] : List Int)) (inner := [.int .u8 0, .int .u8 1, .int .u8 2]) (ok := fun _ => True) (okp := fun _ => True) ?hr ?hp (fun _ hk => hk) trivial (Below.refl _ _) (Nat.le_refl _) (by simp) ?_; (case hd => rfl); (case hg => rfl); (case hr => first | (go_simp; done) | (go_simp; rfl)); (case hp => exact (Reps.one (show Kd.M (Kd.int .u8) _ _ _ 0 [.int .u8 0] from rfl) (Reps.one (show Kd.M (Kd.int .u8) _ _ _ 1 [.int .u8 1] from rfl) (Reps.one (show Kd.M (Kd.int .u8) _ _ _ 2 [.int .u8 2] from rfl) (Reps.none _ _))))); intro v18 w18 ho hb hg_ hnew_; clear hg_ hnew_; rw [← Y18.out] at ho; obtain ⟨A18, c18, e_⟩ := Kd.R_slice ho; subst e_; have n1_ := Aside0.mk (below_step HB.out hb); have nu8_ := Aside0.mk (AllC.cons (AllC.below Hu8.out hb) (Kd.R_reads' ho).2.2); have ni64_ := Aside0.mk (AllC.below Hi64.out hb); have L18 := Aside0.mk (Kd.R_reads' ho).2.1; clear HB Hu8 Hi64 hb; have HB := n1_; have Hu8 := nu8_; have Hi64 := ni64_; clear n1_ nu8_ ni64_; clear ho) | ((with_reducible refine gate_dst (N := 58) rfl ?_); (try (refine gate_guard (by rfl) ?_; dsimp only)); refine Kd.R_lit (Kd.int .u8) _ 5 ?hg (N := 58) ?hd (xs := ([1, 0, 9] : List Int)) (inner := [.int .u8 1, .int .u8 0, .int .u8 9]) (ok := fun _ => True) (okp := fun _ => True) ?hr ?hp (fun _ hk => hk) trivial (Below.refl _ _) (Nat.le_refl _) (by simp) ?_; (case hd => rfl); (case hg => rfl); (case hr => first | (go_simp; done) | (go_simp; rfl)); (case hp => exact (Reps.one (show Kd.M (Kd.int .u8) _ _ _ 1 [.int .u8 1] from rfl) (Reps.one (show Kd.M (Kd.int .u8) _ _ _ 0 [.int .u8 0] from rfl) (Reps.one (show Kd.M (Kd.int .u8) _ _ _ 9 [.int .u8 9] from rfl) (Reps.none _ _))))); intro v19 w19 ho hb hg_ hnew_; clear hg_ hnew_; rw [← Y19.out] at ho; obtain ⟨A19, c19, e_⟩ := Kd.R_slice ho; subst e_; have n1_ := Aside0.mk (below_step HB.out hb); have nu8_ := Aside0.mk (AllC.cons (AllC.below Hu8.out hb) (Kd.R_reads' ho).2.2); have ni64_ := Aside0.mk (AllC.below Hi64.out hb); have L19 := Aside0.mk (Kd.R_reads' ho).2.1; clear HB Hu8 Hi64 hb; have HB := n1_; have Hu8 := nu8_; have Hi64 := ni64_; clear n1_ nu8_ ni64_; clear ho) | ((with_reducible refine gate_callee (f := 13) rfl ?_); refine goesL_ (some 59) rfl rfl Tryd.func13 (by kernel_rfl) rfl #[.slice A18 y18.length c18, .slice A19 y19.length c19, .int .i64 2] rfl (by (try simp only [List.map_toArray, List.map_cons, List.map_nil]); first | done | rfl) ?_; (with_reducible refine (poly_Through.calls 60 A18 c18 y18 A19 c19 y19 2 y20 0 _ (Kd.C_below HLD.out HB.out) Hu8.out.t.g0 L18.out Hu8.out.g0 L19.out P6.out).mono ?_); rintro e w906 ⟨v20, rfl, ho20, hb⟩; refine ⟨_, rfl, ?_⟩; obtain ⟨A20, c20, e_⟩ := Kd.R_slice ho20; subst e_; have n1_ := Aside0.mk (below_step HB.out hb); have nu8_ := Aside0.mk (AllC.cons (AllC.below Hu8.out hb) (Kd.R_reads' ho20).2.2); have ni64_ := Aside0.mk (AllC.below Hi64.out hb); have L20 := Aside0.mk (Kd.R_reads' ho20).2.1; clear HB Hu8 Hi64 hb; have HB := n1_; have Hu8 := nu8_; have Hi64 := ni64_; clear n1_ nu8_ ni64_; clear ho20))
  go_upto_region 9 with (first | ((with_reducible refine gate_dst (N := 63) rfl ?_); (try (refine gate_guard (by rfl) ?_; dsimp only)); refine Kd.R_lit (Kd.int .u8) _ 5 ?hg (N := 63) ?hd (xs := ([0, 1, 2, 3, 4, 5] : List Int)) (inner := [.int .u8 0, .int .u8 1, .int .u8 2, .int .u8 3, .int .u8 4, .int .u8 5]) (ok := fun _ => True) (okp := fun _ => True) ?hr ?hp (fun _ hk => hk) trivial (Below.refl _ _) (Nat.le_refl _) (by simp) ?_; (case hd => rfl); (case hg => rfl); (case hr => first | (go_simp; done) | (go_simp; rfl)); (case hp => exact (Reps.one (show Kd.M (Kd.int .u8) _ _ _ 0 [.int .u8 0] from rfl) (Reps.one (show Kd.M (Kd.int .u8) _ _ _ 1 [.int .u8 1] from rfl) (Reps.one (show Kd.M (Kd.int .u8) _ _ _ 2 [.int .u8 2] from rfl) (Reps.one (show Kd.M (Kd.int .u8) _ _ _ 3 [.int .u8 3] from rfl) (Reps.one (show Kd.M (Kd.int .u8) _ _ _ 4 [.int .u8 4] from rfl) (Reps.one (show Kd.M (Kd.int .u8) _ _ _ 5 [.int .u8 5] from rfl) (Reps.none _ _)))))))); intro v21 w21 ho hb hg_ hnew_; clear hg_ hnew_; rw [← Y21.out] at ho; obtain ⟨A21, c21, e_⟩ := Kd.R_slice ho; subst e_; have n1_ := Aside0.mk (below_step HB.out hb); have nu8_ := Aside0.mk (AllC.cons (AllC.below Hu8.out hb) (Kd.R_reads' ho).2.2); have ni64_ := Aside0.mk (AllC.below Hi64.out hb); have L21 := Aside0.mk (Kd.R_reads' ho).2.1; clear HB Hu8 Hi64 hb; have HB := n1_; have Hu8 := nu8_; have Hi64 := ni64_; clear n1_ nu8_ ni64_; clear ho) | ((with_reducible refine gate_dst (N := 64) rfl ?_); (try (refine gate_guard (by rfl) ?_; dsimp only)); refine Kd.R_lit (Kd.int .u8) _ 5 ?hg (N := 64) ?hd (xs := ([1, 0, 7, 8, 57, 56] : List Int)) (inner := [.int .u8 1, .int .u8 0, .int .u8 7, .int .u8 8, .int .u8 57, .int .u8 56]) (ok := fun _ => True) (okp := fun _ => True) ?hr ?hp (fun _ hk => hk) trivial (Below.refl _ _) (Nat.le_refl _) (by simp) ?_; (case hd => rfl); (case hg => rfl); (case hr => first | (go_simp; done) | (go_simp; rfl)); (case hp => exact (Reps.one (show Kd.M (Kd.int .u8) _ _ _ 1 [.int .u8 1] from rfl) (Reps.one (show Kd.M (Kd.int .u8) _ _ _ 0 [.int .u8 0] from rfl) (Reps.one (show Kd.M (Kd.int .u8) _ _ _ 7 [.int .u8 7] from rfl) (Reps.one (show Kd.M (Kd.int .u8) _ _ _ 8 [.int .u8 8] from rfl) (Reps.one (show Kd.M (Kd.int .u8) _ _ _ 57 [.int .u8 57] from rfl) (Reps.one (show Kd.M (Kd.int .u8) _ _ _ 56 [.int .u8 56] from rfl) (Reps.none _ _)))))))); intro v22 w22 ho hb hg_ hnew_; clear hg_ hnew_; rw [← Y22.out] at ho; obtain ⟨A22, c22, e_⟩ := Kd.R_slice ho; subst e_; have n1_ := Aside0.mk (below_step HB.out hb); have nu8_ := Aside0.mk (AllC.cons (AllC.below Hu8.out hb) (Kd.R_reads' ho).2.2); have ni64_ := Aside0.mk (AllC.below Hi64.out hb); have L22 := Aside0.mk (Kd.R_reads' ho).2.1; clear HB Hu8 Hi64 hb; have HB := n1_; have Hu8 := nu8_; have Hi64 := ni64_; clear n1_ nu8_ ni64_; clear ho) | ((with_reducible refine gate_callee (f := 16) rfl ?_); refine goesL_ (some 65) rfl rfl Tryd.func16 (by kernel_rfl) rfl #[.slice A21 y21.length c21, .slice A22 y22.length c22, .int .i64 2, .int .i64 1] rfl (by (try simp only [List.map_toArray, List.map_cons, List.map_nil]); first | done | rfl) ?_; (with_reducible refine (poly_Decode.calls 60 A21 c21 y21 A22 c22 y22 2 1 y23 y24 0 _ (Kd.C_below HLD.out HB.out) Hu8.out.t.g0 L21.out Hu8.out.g0 L22.out P7.out).mono ?_); rintro e w907 ⟨v23, v24, rfl, ho23, ho24, hb⟩; refine ⟨_, rfl, ?_⟩; obtain ⟨A23, c23, e_⟩ := Kd.R_slice ho23; subst e_; obtain ⟨A24, c24, e_⟩ := Kd.R_slice ho24; subst e_; have n1_ := Aside0.mk (below_step HB.out hb); have nu8_ := Aside0.mk (AllC.cons (AllC.below Hu8.out hb) (Kd.R_reads' ho23).2.2); have ni64_ := Aside0.mk (AllC.cons (AllC.below Hi64.out hb) (Kd.R_reads' ho24).2.2); have L23 := Aside0.mk (Kd.R_reads' ho23).2.1; have L24 := Aside0.mk (Kd.R_reads' ho24).2.1; clear HB Hu8 Hi64 hb; have HB := n1_; have Hu8 := nu8_; have Hi64 := ni64_; clear n1_ nu8_ ni64_; clear ho23 ho24))
  go_upto_region 10 with (first | ((with_reducible refine gate_dst (N := 70) rfl ?_); (try (refine gate_guard (by rfl) ?_; dsimp only)); refine Kd.R_lit (Kd.int .u8) _ 5 ?hg (N := 70) ?hd (xs := ([0, 1, 2] : List Int)) (inner := [.int .u8 0, .int .u8 1, .int .u8 2]) (ok := fun _ => True) (okp := fun _ => True) ?hr ?hp (fun _ hk => hk) trivial (Below.refl _ _) (Nat.le_refl _) (by simp) ?_; (case hd => rfl); (case hg => rfl); (case hr => first | (go_simp; done) | (go_simp; rfl)); (case hp => exact (Reps.one (show Kd.M (Kd.int .u8) _ _ _ 0 [.int .u8 0] from rfl) (Reps.one (show Kd.M (Kd.int .u8) _ _ _ 1 [.int .u8 1] from rfl) (Reps.one (show Kd.M (Kd.int .u8) _ _ _ 2 [.int .u8 2] from rfl) (Reps.none _ _))))); intro v25 w25 ho hb hg_ hnew_; clear hg_ hnew_; rw [← Y25.out] at ho; obtain ⟨A25, c25, e_⟩ := Kd.R_slice ho; subst e_; have n1_ := Aside0.mk (below_step HB.out hb); have nu8_ := Aside0.mk (AllC.cons (AllC.below Hu8.out hb) (Kd.R_reads' ho).2.2); have ni64_ := Aside0.mk (AllC.below Hi64.out hb); have L25 := Aside0.mk (Kd.R_reads' ho).2.1; clear HB Hu8 Hi64 hb; have HB := n1_; have Hu8 := nu8_; have Hi64 := ni64_; clear n1_ nu8_ ni64_; clear ho) | ((with_reducible refine gate_dst (N := 71) rfl ?_); (try (refine gate_guard (by rfl) ?_; dsimp only)); refine Kd.R_lit (Kd.int .u8) _ 5 ?hg (N := 71) ?hd (xs := ([1, 0, 9] : List Int)) (inner := [.int .u8 1, .int .u8 0, .int .u8 9]) (ok := fun _ => True) (okp := fun _ => True) ?hr ?hp (fun _ hk => hk) trivial (Below.refl _ _) (Nat.le_refl _) (by simp) ?_; (case hd => rfl); (case hg => rfl); (case hr => first | (go_simp; done) | (go_simp; rfl)); (case hp => exact (Reps.one (show Kd.M (Kd.int .u8) _ _ _ 1 [.int .u8 1] from rfl) (Reps.one (show Kd.M (Kd.int .u8) _ _ _ 0 [.int .u8 0] from rfl) (Reps.one (show Kd.M (Kd.int .u8) _ _ _ 9 [.int .u8 9] from rfl) (Reps.none _ _))))); intro v26 w26 ho hb hg_ hnew_; clear hg_ hnew_; rw [← Y26.out] at ho; obtain ⟨A26, c26, e_⟩ := Kd.R_slice ho; subst e_; have n1_ := Aside0.mk (below_step HB.out hb); have nu8_ := Aside0.mk (AllC.cons (AllC.below Hu8.out hb) (Kd.R_reads' ho).2.2); have ni64_ := Aside0.mk (AllC.below Hi64.out hb); have L26 := Aside0.mk (Kd.R_reads' ho).2.1; clear HB Hu8 Hi64 hb; have HB := n1_; have Hu8 := nu8_; have Hi64 := ni64_; clear n1_ nu8_ ni64_; clear ho) | ((with_reducible refine gate_callee (f := 16) rfl ?_); refine goesL_ (some 72) rfl rfl Tryd.func16 (by kernel_rfl) rfl #[.slice A25 y25.length c25, .slice A26 y26.length c26, .int .i64 1, .int .i64 1] rfl (by (try simp only [List.map_toArray, List.map_cons, List.map_nil]); first | done | rfl) ?_; (with_reducible refine (poly_Decode.calls 60 A25 c25 y25 A26 c26 y26 1 1 y27 y28 3 _ (Kd.C_below HLD.out HB.out) Hu8.out.t.g0 L25.out Hu8.out.g0 L26.out P8.out).mono ?_); rintro e w908 ⟨v27, v28, rfl, ho27, ho28, hb⟩; refine ⟨_, rfl, ?_⟩; obtain ⟨A27, c27, e_⟩ := Kd.R_slice ho27; subst e_; obtain ⟨A28, c28, e_⟩ := Kd.R_slice ho28; subst e_; have n1_ := Aside0.mk (below_step HB.out hb); have nu8_ := Aside0.mk (AllC.cons (AllC.below Hu8.out hb) (Kd.R_reads' ho27).2.2); have ni64_ := Aside0.mk (AllC.cons (AllC.below Hi64.out hb) (Kd.R_reads' ho28).2.2); have L27 := Aside0.mk (Kd.R_reads' ho27).2.1; have L28 := Aside0.mk (Kd.R_reads' ho28).2.1; clear HB Hu8 Hi64 hb; have HB := n1_; have Hu8 := nu8_; have Hi64 := ni64_; clear n1_ nu8_ ni64_; clear ho27 ho28))
  go_upto_region 13 with (first | ((with_reducible refine gate_dst (N := 107) rfl ?_); (try (refine gate_guard (by rfl) ?_; dsimp only)); refine Kd.R_lit (Kd.int .u8) _ 5 ?hg (N := 107) ?hd (xs := ([1, 0, 1] : List Int)) (inner := [.int .u8 1, .int .u8 0, .int .u8 1]) (ok := fun _ => True) (okp := fun _ => True) ?hr ?hp (fun _ hk => hk) trivial (Below.refl _ _) (Nat.le_refl _) (by simp) ?_; (case hd => rfl); (case hg => rfl); (case hr => first | (go_simp; done) | (go_simp; rfl)); (case hp => exact (Reps.one (show Kd.M (Kd.int .u8) _ _ _ 1 [.int .u8 1] from rfl) (Reps.one (show Kd.M (Kd.int .u8) _ _ _ 0 [.int .u8 0] from rfl) (Reps.one (show Kd.M (Kd.int .u8) _ _ _ 1 [.int .u8 1] from rfl) (Reps.none _ _))))); intro v29 w29 ho hb hg_ hnew_; clear hg_ hnew_; rw [← Y29.out] at ho; obtain ⟨A29, c29, e_⟩ := Kd.R_slice ho; subst e_; have n1_ := Aside0.mk (below_step HB.out hb); have nu8_ := Aside0.mk (AllC.cons (AllC.below Hu8.out hb) (Kd.R_reads' ho).2.2); have ni64_ := Aside0.mk (AllC.below Hi64.out hb); have L29 := Aside0.mk (Kd.R_reads' ho).2.1; clear HB Hu8 Hi64 hb; have HB := n1_; have Hu8 := nu8_; have Hi64 := ni64_; clear n1_ nu8_ ni64_; clear ho) | ((with_reducible refine gate_callee (f := 15) rfl ?_); refine goesL_ (some 108) rfl rfl Tryd.func15 (by kernel_rfl) rfl #[.slice A4 y4.length c4, .slice A29 y29.length c29] rfl (by (try simp only [List.map_toArray, List.map_cons, List.map_nil]); first | done | rfl) ?_; (with_reducible refine (quietusref06_Same.calls 60 A4 c4 y4 A29 c29 y29 true _ Hu8.out.t.t.t.t.t.t.t.t.t.t.t.t.t.t.t.t.t.t.t.t.t.t.t.g0 L4.out Hu8.out.g0 L29.out P9.out).mono ?_); rintro e w' ⟨rfl, ⟨nd, rfl⟩⟩; refine ⟨_, rfl, ?_⟩; have n1_ := Aside0.mk (pw_below_drewN HB.out nd); have nu8_ := Aside0.mk (AllC.drewN Hu8.out nd); have ni64_ := Aside0.mk (AllC.drewN Hi64.out nd); (try simp only [World.drewN_drewN] at n1_ nu8_ ni64_); clear HB Hu8 Hi64; have HB := n1_; have Hu8 := nu8_; have Hi64 := ni64_; clear n1_ nu8_ ni64_) | ((with_reducible refine gate_dst (N := 111) rfl ?_); (try (refine gate_guard (by rfl) ?_; dsimp only)); refine Kd.R_lit (Kd.int .u8) _ 5 ?hg (N := 111) ?hd (xs := ([1, 1] : List Int)) (inner := [.int .u8 1, .int .u8 1]) (ok := fun _ => True) (okp := fun _ => True) ?hr ?hp (fun _ hk => hk) trivial (Below.refl _ _) (Nat.le_refl _) (by simp) ?_; (case hd => rfl); (case hg => rfl); (case hr => first | (go_simp; done) | (go_simp; rfl)); (case hp => exact (Reps.one (show Kd.M (Kd.int .u8) _ _ _ 1 [.int .u8 1] from rfl) (Reps.one (show Kd.M (Kd.int .u8) _ _ _ 1 [.int .u8 1] from rfl) (Reps.none _ _)))); intro v30 w30 ho hb hg_ hnew_; clear hg_ hnew_; rw [← Y30.out] at ho; obtain ⟨A30, c30, e_⟩ := Kd.R_slice ho; subst e_; have n1_ := Aside0.mk (below_step HB.out hb); have nu8_ := Aside0.mk (AllC.cons (AllC.below Hu8.out hb) (Kd.R_reads' ho).2.2); have ni64_ := Aside0.mk (AllC.below Hi64.out hb); have L30 := Aside0.mk (Kd.R_reads' ho).2.1; clear HB Hu8 Hi64 hb; have HB := n1_; have Hu8 := nu8_; have Hi64 := ni64_; clear n1_ nu8_ ni64_; clear ho) | (go_at_call 15; (with_reducible refine (quietusref06_Same.calls 60 A7 c7 y7 A30 c30 y30 true _ Hu8.out.t.t.t.t.t.t.t.t.t.t.t.t.t.t.t.t.t.t.t.t.t.g0 L7.out Hu8.out.g0 L30.out P10.out).mono ?_); rintro e w' ⟨rfl, ⟨nd, rfl⟩⟩; have n1_ := Aside0.mk (pw_below_drewN HB.out nd); have nu8_ := Aside0.mk (AllC.drewN Hu8.out nd); have ni64_ := Aside0.mk (AllC.drewN Hi64.out nd); (try simp only [World.drewN_drewN] at n1_ nu8_ ni64_); clear HB Hu8 Hi64; have HB := n1_; have Hu8 := nu8_; have Hi64 := ni64_; clear n1_ nu8_ ni64_) | (go_at_call 15; (with_reducible refine (quietusref06_Same.calls 60 A14 c14 y14 A1 c1 y1 true _ Hu8.out.t.t.t.t.t.t.t.t.t.t.t.t.t.t.g0 L14.out Hu8.out.t.t.t.t.t.t.t.t.t.t.t.t.t.t.t.t.t.t.t.t.t.t.t.t.t.t.t.g0 L1.out P11.out).mono ?_); rintro e w' ⟨rfl, ⟨nd, rfl⟩⟩; have n1_ := Aside0.mk (pw_below_drewN HB.out nd); have nu8_ := Aside0.mk (AllC.drewN Hu8.out nd); have ni64_ := Aside0.mk (AllC.drewN Hi64.out nd); (try simp only [World.drewN_drewN] at n1_ nu8_ ni64_); clear HB Hu8 Hi64; have HB := n1_; have Hu8 := nu8_; have Hi64 := ni64_; clear n1_ nu8_ ni64_) | (go_at_call 15; (with_reducible refine (quietusref06_Same.calls 60 A20 c20 y20 A1 c1 y1 true _ Hu8.out.t.t.t.t.t.t.t.t.g0 L20.out Hu8.out.t.t.t.t.t.t.t.t.t.t.t.t.t.t.t.t.t.t.t.t.t.t.t.t.t.t.t.g0 L1.out P12.out).mono ?_); rintro e w' ⟨rfl, ⟨nd, rfl⟩⟩; have n1_ := Aside0.mk (pw_below_drewN HB.out nd); have nu8_ := Aside0.mk (AllC.drewN Hu8.out nd); have ni64_ := Aside0.mk (AllC.drewN Hi64.out nd); (try simp only [World.drewN_drewN] at n1_ nu8_ ni64_); clear HB Hu8 Hi64; have HB := n1_; have Hu8 := nu8_; have Hi64 := ni64_; clear n1_ nu8_ ni64_) | (go_at_call 15; (with_reducible refine (quietusref06_Same.calls 60 A23 c23 y23 A1 c1 y1 true _ Hu8.out.t.t.t.t.t.g0 L23.out Hu8.out.t.t.t.t.t.t.t.t.t.t.t.t.t.t.t.t.t.t.t.t.t.t.t.t.t.t.t.g0 L1.out P13.out).mono ?_); rintro e w' ⟨rfl, ⟨nd, rfl⟩⟩; have n1_ := Aside0.mk (pw_below_drewN HB.out nd); have nu8_ := Aside0.mk (AllC.drewN Hu8.out nd); have ni64_ := Aside0.mk (AllC.drewN Hi64.out nd); (try simp only [World.drewN_drewN] at n1_ nu8_ ni64_); clear HB Hu8 Hi64; have HB := n1_; have Hu8 := nu8_; have Hi64 := ni64_; clear n1_ nu8_ ni64_) | ((with_reducible refine gate_dst (N := 136) rfl ?_); (try (refine gate_guard (by rfl) ?_; dsimp only)); refine Kd.R_lit (Kd.int .i64) _ 3 ?hg (N := 136) ?hd (xs := ([2] : List Int)) (inner := [.int .i64 2]) (ok := fun _ => True) (okp := fun _ => True) ?hr ?hp (fun _ hk => hk) trivial (Below.refl _ _) (Nat.le_refl _) (by simp) ?_; (case hd => rfl); (case hg => rfl); (case hr => first | (go_simp; done) | (go_simp; rfl)); (case hp => exact (Reps.one (show Kd.M (Kd.int .i64) _ _ _ 2 [.int .i64 2] from rfl) (Reps.none _ _))); intro v31 w31 ho hb hg_ hnew_; clear hg_ hnew_; rw [← Y31.out] at ho; obtain ⟨A31, c31, e_⟩ := Kd.R_slice ho; subst e_; have n1_ := Aside0.mk (below_step HB.out hb); have nu8_ := Aside0.mk (AllC.below Hu8.out hb); have ni64_ := Aside0.mk (AllC.cons (AllC.below Hi64.out hb) (Kd.R_reads' ho).2.2); have L31 := Aside0.mk (Kd.R_reads' ho).2.1; clear HB Hu8 Hi64 hb; have HB := n1_; have Hu8 := nu8_; have Hi64 := ni64_; clear n1_ nu8_ ni64_; clear ho) | (go_at_call 18; (with_reducible refine (quietusref06_SameInts.calls 60 A24 c24 y24 A31 c31 y31 true _ Hi64.out.t.t.g0 L24.out Hi64.out.g0 L31.out P14.out).mono ?_); rintro e w' ⟨rfl, ⟨nd, rfl⟩⟩; have n1_ := Aside0.mk (pw_below_drewN HB.out nd); have nu8_ := Aside0.mk (AllC.drewN Hu8.out nd); have ni64_ := Aside0.mk (AllC.drewN Hi64.out nd); (try simp only [World.drewN_drewN] at n1_ nu8_ ni64_); clear HB Hu8 Hi64; have HB := n1_; have Hu8 := nu8_; have Hi64 := ni64_; clear n1_ nu8_ ni64_))
  go_wp2_with (first | (go_at_call 23; (with_reducible refine (poly_Eval.calls 60 A1 c1 y1 2 9 _ (Kd.C_below HLD.out HB.out) Hu8.out.t.t.t.t.t.t.t.t.t.t.t.t.t.t.t.t.t.t.t.t.t.t.t.t.t.t.t.g0 L1.out P15.out).mono ?_); rintro e w' ⟨rfl, ⟨nd, rfl⟩⟩; have n1_ := Aside0.mk (pw_below_drewN HB.out nd); have nu8_ := Aside0.mk (AllC.drewN Hu8.out nd); have ni64_ := Aside0.mk (AllC.drewN Hi64.out nd); (try simp only [World.drewN_drewN] at n1_ nu8_ ni64_); clear HB Hu8 Hi64; have HB := n1_; have Hu8 := nu8_; have Hi64 := ni64_; clear n1_ nu8_ ni64_) | (go_at_call 23; (with_reducible refine (poly_Eval.calls 60 A1 c1 y1 0 1 _ (Kd.C_below HLD.out HB.out) Hu8.out.t.t.t.t.t.t.t.t.t.t.t.t.t.t.t.t.t.t.t.t.t.t.t.t.t.t.t.g0 L1.out P16.out).mono ?_); rintro e w' ⟨rfl, ⟨nd, rfl⟩⟩; have n1_ := Aside0.mk (pw_below_drewN HB.out nd); have nu8_ := Aside0.mk (AllC.drewN Hu8.out nd); have ni64_ := Aside0.mk (AllC.drewN Hi64.out nd); (try simp only [World.drewN_drewN] at n1_ nu8_ ni64_); clear HB Hu8 Hi64; have HB := n1_; have Hu8 := nu8_; have Hi64 := ni64_; clear n1_ nu8_ ni64_) | ((with_reducible refine gate_dst (N := 151) rfl ?_); (try (refine gate_guard (by rfl) ?_; dsimp only)); refine Kd.R_lit (Kd.int .u8) _ 5 ?hg (N := 151) ?hd (xs := ([5, 0, 0] : List Int)) (inner := [.int .u8 5, .int .u8 0, .int .u8 0]) (ok := fun _ => True) (okp := fun _ => True) ?hr ?hp (fun _ hk => hk) trivial (Below.refl _ _) (Nat.le_refl _) (by simp) ?_; (case hd => rfl); (case hg => rfl); (case hr => first | (go_simp; done) | (go_simp; rfl)); (case hp => exact (Reps.one (show Kd.M (Kd.int .u8) _ _ _ 5 [.int .u8 5] from rfl) (Reps.one (show Kd.M (Kd.int .u8) _ _ _ 0 [.int .u8 0] from rfl) (Reps.one (show Kd.M (Kd.int .u8) _ _ _ 0 [.int .u8 0] from rfl) (Reps.none _ _))))); intro v32 w32 ho hb hg_ hnew_; clear hg_ hnew_; rw [← Y32.out] at ho; obtain ⟨A32, c32, e_⟩ := Kd.R_slice ho; subst e_; have n1_ := Aside0.mk (below_step HB.out hb); have nu8_ := Aside0.mk (AllC.cons (AllC.below Hu8.out hb) (Kd.R_reads' ho).2.2); have ni64_ := Aside0.mk (AllC.below Hi64.out hb); have L32 := Aside0.mk (Kd.R_reads' ho).2.1; clear HB Hu8 Hi64 hb; have HB := n1_; have Hu8 := nu8_; have Hi64 := ni64_; clear n1_ nu8_ ni64_; clear ho) | (go_at_call 25; (with_reducible refine (poly_Degree.calls 60 A32 c32 y32 0 _ Hu8.out.g0 L32.out P17.out).mono ?_); rintro e w' ⟨rfl, ⟨nd, rfl⟩⟩; have n1_ := Aside0.mk (pw_below_drewN HB.out nd); have nu8_ := Aside0.mk (AllC.drewN Hu8.out nd); have ni64_ := Aside0.mk (AllC.drewN Hi64.out nd); (try simp only [World.drewN_drewN] at n1_ nu8_ ni64_); clear HB Hu8 Hi64; have HB := n1_; have Hu8 := nu8_; have Hi64 := ni64_; clear n1_ nu8_ ni64_) | ((with_reducible refine gate_dst (N := 156) rfl ?_); (try (refine gate_guard (by rfl) ?_; dsimp only)); refine Kd.R_lit (Kd.int .u8) _ 5 ?hg (N := 156) ?hd (xs := ([0, 0] : List Int)) (inner := [.int .u8 0, .int .u8 0]) (ok := fun _ => True) (okp := fun _ => True) ?hr ?hp (fun _ hk => hk) trivial (Below.refl _ _) (Nat.le_refl _) (by simp) ?_; (case hd => rfl); (case hg => rfl); (case hr => first | (go_simp; done) | (go_simp; rfl)); (case hp => exact (Reps.one (show Kd.M (Kd.int .u8) _ _ _ 0 [.int .u8 0] from rfl) (Reps.one (show Kd.M (Kd.int .u8) _ _ _ 0 [.int .u8 0] from rfl) (Reps.none _ _)))); intro v33 w33 ho hb hg_ hnew_; clear hg_ hnew_; rw [← Y33.out] at ho; obtain ⟨A33, c33, e_⟩ := Kd.R_slice ho; subst e_; have n1_ := Aside0.mk (below_step HB.out hb); have nu8_ := Aside0.mk (AllC.cons (AllC.below Hu8.out hb) (Kd.R_reads' ho).2.2); have ni64_ := Aside0.mk (AllC.below Hi64.out hb); have L33 := Aside0.mk (Kd.R_reads' ho).2.1; clear HB Hu8 Hi64 hb; have HB := n1_; have Hu8 := nu8_; have Hi64 := ni64_; clear n1_ nu8_ ni64_; clear ho) | (go_at_call 25; (with_reducible refine (poly_Degree.calls 60 A33 c33 y33 (-1) _ Hu8.out.g0 L33.out P18.out).mono ?_); rintro e w' ⟨rfl, ⟨nd, rfl⟩⟩; have n1_ := Aside0.mk (pw_below_drewN HB.out nd); have nu8_ := Aside0.mk (AllC.drewN Hu8.out nd); have ni64_ := Aside0.mk (AllC.drewN Hi64.out nd); (try simp only [World.drewN_drewN] at n1_ nu8_ ni64_); clear HB Hu8 Hi64; have HB := n1_; have Hu8 := nu8_; have Hi64 := ni64_; clear n1_ nu8_ ni64_) | ((with_reducible refine gate_dst (N := 161) rfl ?_); (try (refine gate_guard (by rfl) ?_; dsimp only)); refine Kd.R_lit (Kd.int .u8) _ 5 ?hg (N := 161) ?hd (xs := ([5, 0, 0] : List Int)) (inner := [.int .u8 5, .int .u8 0, .int .u8 0]) (ok := fun _ => True) (okp := fun _ => True) ?hr ?hp (fun _ hk => hk) trivial (Below.refl _ _) (Nat.le_refl _) (by simp) ?_; (case hd => rfl); (case hg => rfl); (case hr => first | (go_simp; done) | (go_simp; rfl)); (case hp => exact (Reps.one (show Kd.M (Kd.int .u8) _ _ _ 5 [.int .u8 5] from rfl) (Reps.one (show Kd.M (Kd.int .u8) _ _ _ 0 [.int .u8 0] from rfl) (Reps.one (show Kd.M (Kd.int .u8) _ _ _ 0 [.int .u8 0] from rfl) (Reps.none _ _))))); intro v34 w34 ho hb hg_ hnew_; clear hg_ hnew_; rw [← Y34.out] at ho; obtain ⟨A34, c34, e_⟩ := Kd.R_slice ho; subst e_; have n1_ := Aside0.mk (below_step HB.out hb); have nu8_ := Aside0.mk (AllC.cons (AllC.below Hu8.out hb) (Kd.R_reads' ho).2.2); have ni64_ := Aside0.mk (AllC.below Hi64.out hb); have L34 := Aside0.mk (Kd.R_reads' ho).2.1; clear HB Hu8 Hi64 hb; have HB := n1_; have Hu8 := nu8_; have Hi64 := ni64_; clear n1_ nu8_ ni64_; clear ho) | (go_at_call 21; (with_reducible refine (poly_Trim.calls 60 A34 c34 y34 y35 _ Hu8.out.g0 L34.out P19.out).mono ?_); rintro e w909 ⟨v35, rfl, ho35, hb⟩; obtain ⟨A35, c35, e_⟩ := Kd.R_slice ho35; subst e_; have n1_ := Aside0.mk (below_step HB.out hb); have nu8_ := Aside0.mk (AllC.cons (AllC.below Hu8.out hb) (Kd.R_reads' ho35).2.2); have ni64_ := Aside0.mk (AllC.below Hi64.out hb); have L35 := Aside0.mk (Kd.R_reads' ho35).2.1; clear HB Hu8 Hi64 hb; have HB := n1_; have Hu8 := nu8_; have Hi64 := ni64_; clear n1_ nu8_ ni64_; clear ho35) | ((with_reducible refine gate_dst (N := 163) rfl ?_); (try (refine gate_guard (by rfl) ?_; dsimp only)); refine Kd.R_lit (Kd.int .u8) _ 5 ?hg (N := 163) ?hd (xs := ([5] : List Int)) (inner := [.int .u8 5]) (ok := fun _ => True) (okp := fun _ => True) ?hr ?hp (fun _ hk => hk) trivial (Below.refl _ _) (Nat.le_refl _) (by simp) ?_; (case hd => rfl); (case hg => rfl); (case hr => first | (go_simp; done) | (go_simp; rfl)); (case hp => exact (Reps.one (show Kd.M (Kd.int .u8) _ _ _ 5 [.int .u8 5] from rfl) (Reps.none _ _))); intro v36 w36 ho hb hg_ hnew_; clear hg_ hnew_; rw [← Y36.out] at ho; obtain ⟨A36, c36, e_⟩ := Kd.R_slice ho; subst e_; have n1_ := Aside0.mk (below_step HB.out hb); have nu8_ := Aside0.mk (AllC.cons (AllC.below Hu8.out hb) (Kd.R_reads' ho).2.2); have ni64_ := Aside0.mk (AllC.below Hi64.out hb); have L36 := Aside0.mk (Kd.R_reads' ho).2.1; clear HB Hu8 Hi64 hb; have HB := n1_; have Hu8 := nu8_; have Hi64 := ni64_; clear n1_ nu8_ ni64_; clear ho) | (go_at_call 15; (with_reducible refine (quietusref06_Same.calls 60 A35 c35 y35 A36 c36 y36 true _ Hu8.out.t.g0 L35.out Hu8.out.g0 L36.out P20.out).mono ?_); rintro e w' ⟨rfl, ⟨nd, rfl⟩⟩; have n1_ := Aside0.mk (pw_below_drewN HB.out nd); have nu8_ := Aside0.mk (AllC.drewN Hu8.out nd); have ni64_ := Aside0.mk (AllC.drewN Hi64.out nd); (try simp only [World.drewN_drewN] at n1_ nu8_ ni64_); clear HB Hu8 Hi64; have HB := n1_; have Hu8 := nu8_; have Hi64 := ni64_; clear n1_ nu8_ ni64_))
  go_ret
  exact ⟨rfl, HB.out⟩

end Go.Proofs.YtldfcpmapbofgaaDoor.M
