/- The printed functions of the field: they compute the product, powers and the inverse. -/
import Derived.Test.YtldfcpmapbofgaaDoorM1
import Derived.Test.YtldfcpmapbofgaaDoorQPoly
namespace Go.Proofs.YtldfcpmapbofgaaDoor.Br
open Go.RowKit Go.Proofs.YtldfcpmapbofgaaDoorW.PrintWords Go.Proofs.YtldfcpmapbofgaaDoorW.PrintMore Go.Proofs.YtldfcpmapbofgaaDoor.M Go.Proofs.QGf

/-! From some number of rounds on. -/
theorem Ev.succ {α : Type} {g : Nat → Option α} {r : α} (h : Ev (fun k => g (k + 1)) r) : Ev g r := Ev.step (fun _ => rfl) h
theorem Ev.ifp {α : Type} {c : Prop} [Decidable c] (hc : c) {A B : Nat → Option α} {r : α} (h : Ev A r) : Ev (fun k => if c then A k else B k) r := by
  simpa only [if_pos hc] using h
theorem Ev.ifn {α : Type} {c : Prop} [Decidable c] (hc : ¬ c) {A B : Nat → Option α} {r : α} (h : Ev B r) : Ev (fun k => if c then A k else B k) r := by
  simpa only [if_neg hc] using h
theorem Ev.const {α : Type} {o : Option α} {r : α} (h : o = some r) : Ev (fun _ => o) r := ⟨0, fun _ _ => h⟩
theorem w64 {x : Int} (h0 : -9223372036854775808 ≤ x) (h1 : x ≤ 9223372036854775807) : wrap64 x = x := by unfold wrap64; omega

/-! Bytes. -/
theorem xor_n (a b : G) : Go.bits .xor .u8 (a.n : Int) (b.n : Int) = ((a + b).n : Int) := by
  have ha := a.lt
  have hb := b.lt
  have hx := xor_lt ha hb
  show IntKind.u8.wrap (((BitVec.ofInt 8 (a.n : Int) ^^^ BitVec.ofInt 8 (b.n : Int)).toNat : Nat) : Int) = _
  rw [add_n]
  have e : (BitVec.ofInt 8 (a.n : Int) ^^^ BitVec.ofInt 8 (b.n : Int)).toNat = a.n ^^^ b.n := by
    rw [BitVec.toNat_xor, BitVec.ofInt_natCast, BitVec.ofInt_natCast, BitVec.toNat_ofNat, BitVec.toNat_ofNat, Nat.mod_eq_of_lt ha, Nat.mod_eq_of_lt hb]
  rw [e, IntKind.wrap_u8]
  omega
/-- The table's part: 16 times a byte. -/
theorem reduce16 (a : G) : gf_reduce.f (IntKind.u64.wrap ((IntKind.u64.wrap (a.n : Int)) * 16)) = some ((ofN 16 * a).n : Int) := by
  have := (by decide +kernel : ∀ a : Fin 256, gf_reduce.f (IntKind.u64.wrap ((IntKind.u64.wrap (a.1 : Int)) * 16)) = some ((ofN 16 * ofN a.1).n : Int)) ⟨a.n, a.lt⟩
  rw [ofN_of] at this
  exact this
theorem times_ev (a : G) (m : Fin 16) : gf_times.f 5 (a.n : Int) (m.1 : Int) = some ((a * ofN m.1).n : Int) := by
  have := (by decide +kernel : ∀ (a : Fin 256) (m : Fin 16), gf_times.f 5 (a.1 : Int) (m.1 : Int) = some ((ofN a.1 * ofN m.1).n : Int)) ⟨a.n, a.lt⟩ m
  rw [ofN_of] at this
  exact this
theorem halves (b : G) : IntKind.u64.wrap ((b.n : Int) / 16) = ((b.n / 16 : Nat) : Int) ∧ IntKind.u64.wrap (Go.bits .and .u8 (b.n : Int) 15) = ((b.n % 16 : Nat) : Int) ∧ ofN 16 * ofN (b.n / 16) + ofN (b.n % 16) = b := by
  have := (by decide +kernel : ∀ b : Fin 256, IntKind.u64.wrap ((b.1 : Int) / 16) = ((b.1 / 16 : Nat) : Int) ∧ IntKind.u64.wrap (Go.bits .and .u8 (b.1 : Int) 15) = ((b.1 % 16 : Nat) : Int) ∧ ofN 16 * ofN (b.1 / 16) + ofN (b.1 % 16) = ofN b.1) ⟨b.n, b.lt⟩
  rw [ofN_of] at this
  exact this
theorem mul_ev (a b : G) : Ev (fun k => gf_Mul.f k (a.n : Int) (b.n : Int)) ((a * b).n : Int) := by
  refine Ev.of (gf_Mul.mono _ _) (k := 5) ?_
  obtain ⟨h1, h2, h3⟩ := halves b
  have hb := b.lt
  unfold gf_Mul.f
  rw [h1, h2, times_ev a ⟨b.n / 16, by omega⟩, times_ev a ⟨b.n % 16, by omega⟩]
  simp only [Option.bind_some]
  rw [reduce16]
  simp only [Option.bind_some]
  rw [xor_n, mul_left_comm, ← mul_add, h3]
theorem power_ev : ∀ (d n : Nat) (a x : G), n < 2 ^ d → n < 9223372036854775807 → Ev (fun k => gf_power.l0 k (a.n : Int) (n : Int) (x.n : Int)) ((x * pow a n).n : Int)
  | 0, n, a, x, h, _ => by
    have : n = 0 := by omega
    subst this
    refine Ev.succ ?_
    simp only [gf_power.l0]
    refine Ev.ifn (by decide) ?_
    rw [show x * pow a 0 = x from by simp [pow]]
    exact Ev.now _
  | d + 1, n, a, x, h, hb => by
    refine Ev.succ ?_
    simp only [gf_power.l0]
    by_cases h0 : n = 0
    · subst h0
      refine Ev.ifn (by decide) ?_
      rw [show x * pow a 0 = x from by simp [pow]]
      exact Ev.now _
    · refine Ev.ifp (by omega) ?_
      have hd : ((n : Int) / 2) = ((n / 2 : Nat) : Int) := by omega
      have hsq : pow (a * a) (n / 2) = pow a (n / 2 + n / 2) := by rw [pow_mul_dist, ← pow_add]
      have hand : Go.bits .and .i64 (n : Int) 1 = ((n % 2 : Nat) : Int) := by
        show IntKind.i64.wrap (((BitVec.ofInt 64 (n : Int) &&& BitVec.ofInt 64 ((1 : Nat) : Int)).toNat : Nat) : Int) = _
        rw [BitVec.ofInt_natCast, BitVec.ofInt_natCast, BitVec.toNat_and, BitVec.toNat_ofNat, BitVec.toNat_ofNat, Nat.mod_eq_of_lt (show n < 2 ^ 64 by omega), Nat.mod_eq_of_lt (show 1 < 2 ^ 64 by decide), Nat.and_one_is_mod, IntKind.wrap_i64]
        omega
      by_cases h1 : n % 2 = 1
      · refine Ev.ifp (by rw [hand, h1]; rfl) ?_
        refine Ev.bind (mul_ev x a) (Ev.bind (mul_ev a a) ?_)
        rw [hd]
        have := power_ev d (n / 2) (a * a) (x * a) (by rw [Nat.pow_succ] at h; omega) (by omega)
        rw [hsq, mul_assoc, show a * pow a (n / 2 + n / 2) = pow a n from by (have e : n = (n / 2 + n / 2) + 1 := by omega); exact (congrArg (pow a) e).symm ▸ rfl] at this
        exact this
      · refine Ev.ifn (by rw [hand]; omega) ?_
        refine Ev.bind (mul_ev a a) ?_
        rw [hd]
        have := power_ev d (n / 2) (a * a) x (by rw [Nat.pow_succ] at h; omega) (by omega)
        rw [hsq, show n / 2 + n / 2 = n from by omega] at this
        exact this
theorem inv_ev {a : G} (h : a ≠ 0) : Ev (fun k => gf_Inv.f k (a.n : Int)) (((inv a).n : Int), 0) := by
  unfold gf_Inv.f
  refine Ev.ifn (fun e => h (G.ext (by simpa using e))) ?_
  refine Ev.bind (a := ((inv a).n : Int)) ?_ (Ev.now _)
  have := power_ev 8 254 a 1 (by decide) (by decide)
  rw [one_mul, ← inv_pow] at this
  exact this
end Go.Proofs.YtldfcpmapbofgaaDoor.Br
