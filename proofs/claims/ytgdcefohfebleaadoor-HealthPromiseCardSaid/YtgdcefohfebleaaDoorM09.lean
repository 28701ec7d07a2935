/-
  Proved here, step by step for the theorem UW: matrix.times; field.reduce: bits; field.reduce; Numbers as polynomials over two elements: products, degrees, divisibility.; field.inverse: plain part; field.inverse; field.inverse, field.Inv: what calls of them do; Representations that say the same; slices.IndexFunc, ContainsFunc of rows; erasure.every
  Conditions: those that stand in each theorem.
-/
import GoSem.Step
import Derived.Test.YtgdcefohfebleaaDoorM08
/- matrix.times -/
set_option linter.unusedVariables false
set_option linter.unusedSimpArgs false
namespace Go.Proofs.YtgdcefohfebleaaDoor.V
open Go Go.Proofs

def timesF (m a b : Int) : Int := if allF m [a, b] = true then mulF m a b else 0
def timesC : List AV → (AV → Prop) → Prop
  | [.d (.v (.int .i64 m)), .d (.v (.int .i64 a)), .d (.v (.int .i64 b))], K => K (.d (.v (.int .i64 (timesF m a b))))
  | _, _ => False
def spsF5 : List (Nat × SpecE) := (131, .lend degC) :: (126, .lend mulC) :: spsF4
theorem spsF5_ok : SpsOk gl0 spsF5 := (spsF4_ok.cons ⟨Tryd.f126, Tryd.func126, by decide, rfl⟩ mul_ok).cons deg_fn deg_ok
theorem times_ok : Meets P0 gl0 116 (.lend timesC) := by
  intro args K h
  unfold timesC at h
  split at h
  · rename_i m a b
    have hK : ∀ r, r = timesF m a b → K (.d (.v (.int .i64 r))) := fun r hr => by rw [hr]; exact h
    refine does_mk noEq_ok spsF5_ok Tryd.func116 {} (fun i g s h => by cases h) [] ?_
    repeat' (first | refine And.intro ?_ ?_ | intro _ | (refine brK_id ?_; first | with_reducible refine brK_t ?_ | with_reducible refine brK_f ?_ | with_reducible refine brK_dec ?_ ?_ | with_reducible refine brK_ndec ?_ ?_ | refine brK_of ?_ ?_) | exact True.intro | refine hK _ ?_)
    all_goals (try (refine ⟨?_⟩))
    all_goals (try rfl)
    · rename_i h1; unfold timesF; rw [if_pos h1]
    · rename_i h1; unfold timesF; rw [if_neg (by simp [h1])]
  · exact h.elim
end Go.Proofs.YtgdcefohfebleaaDoor.V
/- field.reduce: bits -/
set_option linter.unusedVariables false
set_option linter.unusedSimpArgs false
namespace Go.Proofs.YtgdcefohfebleaaDoor.V
open Go Go.Proofs

theorem bits_lt : ∀ f a, a < 2 ^ f → a < 2 ^ bitsN f a
  | 0, a, h => by simpa [bitsN] using h
  | f + 1, a, h => by
    simp only [bitsN]
    split
    · rename_i h0; subst h0; simp
    · have := bits_lt f (a / 2) (by rw [Nat.pow_succ] at h; omega)
      rw [Nat.pow_succ]; omega
theorem bits_ge : ∀ f a, a ≠ 0 → a < 2 ^ f → 2 ^ (bitsN f a - 1) ≤ a
  | 0, a, h0, h => by simp at h; exact absurd h h0
  | f + 1, a, h0, h => by
    simp only [bitsN, if_neg h0]
    by_cases h1 : a / 2 = 0
    · have : bitsN f (a / 2) = 0 := by rw [h1]; cases f <;> simp [bitsN]
      rw [this]; simp; omega
    · have h2 := bits_ge f (a / 2) h1 (by rw [Nat.pow_succ] at h; omega)
      have h3 : bitsN f (a / 2) ≠ 0 := by
        cases f with
        | zero => simp at h; omega
        | succ f => simp [bitsN, h1]
      have h4 : bitsN f (a / 2) + 1 - 1 = (bitsN f (a / 2) - 1) + 1 := by omega
      rw [h4, Nat.pow_succ]; omega
theorem bits_le_of : ∀ f a k, a < 2 ^ k → bitsN f a ≤ k
  | 0, _, _, _ => Nat.zero_le _
  | f + 1, a, 0, h => by simp at h; simp [bitsN, h]
  | f + 1, a, k + 1, h => by
    simp only [bitsN]
    split
    · omega
    · have := bits_le_of f (a / 2) k (by rw [Nat.pow_succ] at h; omega)
      omega
theorem bits_pos {a : Nat} (h : a ≠ 0) : 0 < bitsN 64 a := by
  show 0 < (if a = 0 then 0 else bitsN 63 (a / 2) + 1)
  rw [if_neg h]; omega
theorem bits_xor_top {a b : Nat} (ha : a ≠ 0) (hb : b ≠ 0) (h1 : a < 2 ^ 62) (h2 : b < 2 ^ 62) (h : bitsN 64 a = bitsN 64 b) : bitsN 64 (a ^^^ b) < bitsN 64 a := by
  have hp := bits_pos ha
  have e : bitsN 64 a - 1 + 1 = bitsN 64 a := by omega
  have := xor_top (m := bitsN 64 a - 1) (bits_ge 64 a ha (by omega)) (by rw [e]; exact bits_lt 64 a (by omega)) (by rw [h]; exact bits_ge 64 b hb (by omega)) (by rw [e, h]; exact bits_lt 64 b (by omega))
  have := bits_le_of 64 _ _ this
  omega
theorem bits_xor_le {a b k : Nat} (h1 : a < 2 ^ 62) (h2 : b < 2 ^ 62) (ha : bitsN 64 a ≤ k) (hb : bitsN 64 b ≤ k) : bitsN 64 (a ^^^ b) ≤ k :=
  bits_le_of 64 _ k (Nat.xor_lt_two_pow (Nat.lt_of_lt_of_le (bits_lt 64 a (by omega)) (Nat.pow_le_pow_right (by omega) ha)) (Nat.lt_of_lt_of_le (bits_lt 64 b (by omega)) (Nat.pow_le_pow_right (by omega) hb)))
theorem bits_shl {a : Nat} (h : a ≠ 0) : ∀ s, a * 2 ^ s < 2 ^ 62 → bitsN 64 (a * 2 ^ s) = bitsN 64 a + s
  | 0, _ => by simp
  | s + 1, hs => by
    have e : a * 2 ^ (s + 1) = (a * 2 ^ s) * 2 := by rw [Nat.pow_succ, Nat.mul_assoc]
    have h0 : a * 2 ^ s ≠ 0 := Nat.mul_ne_zero h (Nat.ne_of_gt (Nat.pow_pos (by omega)))
    rw [e] at hs ⊢
    rw [bits_half hs (by omega), Nat.mul_div_cancel _ (by omega), bits_shl h s (by omega)]
    omega
end Go.Proofs.YtgdcefohfebleaaDoor.V
/- field.reduce -/
set_option linter.unusedVariables false
set_option linter.unusedSimpArgs false
namespace Go.Proofs.YtgdcefohfebleaaDoor.V
open Go Go.Proofs

def redN (m : Nat) : Nat → Nat → Nat
  | 0, a => a
  | f + 1, a => if bitsN 64 a ≤ m then a else redN m f (a ^^^ modN m * 2 ^ (bitsN 64 a - 1 - m))
def redF (m a : Int) : Int := (redN m.toNat 64 a.toNat : Nat)
theorem redN_small (m f a : Nat) (h : bitsN 64 a ≤ m) : redN m f a = a := by
  cases f with
  | zero => rfl
  | succ f => simp [redN, h]
theorem red_step {m a : Nat} (hm : m = 8 ∨ m = 16) (ha : a < 2 ^ 40) (h : m < bitsN 64 a) : (a ^^^ modN m * 2 ^ (bitsN 64 a - 1 - m)) < 2 ^ 40 ∧ bitsN 64 (a ^^^ modN m * 2 ^ (bitsN 64 a - 1 - m)) < bitsN 64 a := by
  have hb : bitsN 64 a ≤ 40 := bits_le_of 64 a 40 ha
  have ha0 : a ≠ 0 := by rintro rfl; simp [bitsN] at h
  have hmod : modN m ≠ 0 ∧ bitsN 64 (modN m) = m + 1 ∧ modN m < 2 ^ (m + 1) := by rcases hm with rfl | rfl <;> decide
  have hs : modN m * 2 ^ (bitsN 64 a - 1 - m) < 2 ^ 62 := by
    calc modN m * 2 ^ (bitsN 64 a - 1 - m) < 2 ^ (m + 1) * 2 ^ (bitsN 64 a - 1 - m) := Nat.mul_lt_mul_of_pos_right hmod.2.2 (Nat.pow_pos (by omega))
      _ = 2 ^ (m + 1 + (bitsN 64 a - 1 - m)) := (Nat.pow_add 2 (m + 1) _).symm
      _ ≤ 2 ^ 62 := Nat.pow_le_pow_right (by omega) (by omega)
  have hb2 : bitsN 64 (modN m * 2 ^ (bitsN 64 a - 1 - m)) = bitsN 64 a := by rw [bits_shl hmod.1 _ hs, hmod.2.1]; omega
  have h3 := bits_xor_top ha0 (Nat.mul_ne_zero hmod.1 (Nat.ne_of_gt (Nat.pow_pos (by omega)))) (by omega) hs hb2.symm
  refine ⟨?_, h3⟩
  refine Nat.xor_lt_two_pow ha (Nat.lt_of_lt_of_le (bits_lt 64 _ (by omega)) (Nat.pow_le_pow_right (by omega) (by omega)))
theorem redN_fuel {m : Nat} (hm : m = 8 ∨ m = 16) : ∀ f g a, a < 2 ^ 40 → bitsN 64 a ≤ f → bitsN 64 a ≤ g → redN m f a = redN m g a
  | 0, g, a, _, h1, _ => by rw [redN_small m g a (by omega)]; rfl
  | f + 1, 0, a, _, _, h2 => by rw [redN_small m (f + 1) a (by omega)]; rfl
  | f + 1, g + 1, a, ha, h1, h2 => by
    simp only [redN]
    split
    · rfl
    · rename_i h
      obtain ⟨h3, h4⟩ := red_step hm ha (by omega)
      exact redN_fuel hm f g _ h3 (by omega) (by omega)
theorem redN_step {m a : Nat} (hm : m = 8 ∨ m = 16) (ha : a < 2 ^ 40) (h : m < bitsN 64 a) : redN m 64 (a ^^^ modN m * 2 ^ (bitsN 64 a - 1 - m)) = redN m 64 a := by
  obtain ⟨h3, h4⟩ := red_step hm ha h
  have h5 : redN m 64 a = redN m 63 (a ^^^ modN m * 2 ^ (bitsN 64 a - 1 - m)) := by
    show (if bitsN 64 a ≤ m then a else redN m 63 (a ^^^ modN m * 2 ^ (bitsN 64 a - 1 - m))) = _
    rw [if_neg (by omega)]
  have h6 : bitsN 64 (a ^^^ modN m * 2 ^ (bitsN 64 a - 1 - m)) ≤ 40 := bits_le_of 64 _ 40 h3
  rw [h5, redN_fuel hm 64 63 _ h3 (by omega) (by omega)]
attribute [local irreducible] bitsN redN prodN prodStep modN modF
def redAn (m a : Nat) : An := { ann := fun k => bif Nat.beq k 2 then some { ι := Nat, nils := [], vars := fun x => [(1, .d (.v (.int .i64 (x : Int)))), (5, .d (.v (.int .i64 (degF (x : Int)))))], mem := fun i => [], inv := fun x => x < 2 ^ 40 ∧ redN m 64 x = redN m 64 a, init := a, meas := fun x => bitsN 64 x } else none }
theorem red_sh {m a : Nat} (hm : m = 8 ∨ m = 16) (ha : a < 2 ^ 40) (h : (m : Int) ≤ degF a) : modF (m : Int) * 2 ^ min (degF a - (m : Int)).toNat IntKind.i64.bits = ((modN m * 2 ^ (bitsN 64 a - 1 - m) : Nat) : Int) := by
  rw [degF_nat] at h ⊢
  have hb := bits_le_of 64 a 40 ha
  have h1 : ((bitsN 64 a : Nat) - 1 - (m : Int)).toNat = bitsN 64 a - 1 - m := by omega
  have h2 : min (bitsN 64 a - 1 - m) IntKind.i64.bits = bitsN 64 a - 1 - m := by
    have : IntKind.i64.bits = 64 := rfl
    omega
  rw [h1, h2, modN_eq, Int.natCast_mul, Int.natCast_pow]; rfl
theorem red_lt {m a : Nat} (hm : m = 8 ∨ m = 16) (ha : a < 2 ^ 40) : modN m * 2 ^ (bitsN 64 a - 1 - m) < 2 ^ 62 := by
  have hb := bits_le_of 64 a 40 ha
  have h2 : (2 : Nat) ^ (bitsN 64 a - 1 - m) ≤ 2 ^ 40 := Nat.pow_le_pow_right (by omega) (by omega)
  have h1 : modN m ≤ 69643 := by unfold modN; split <;> (try split) <;> omega
  calc modN m * 2 ^ (bitsN 64 a - 1 - m) ≤ 69643 * 2 ^ 40 := Nat.mul_le_mul h1 h2
    _ < 2 ^ 62 := by decide
set_option maxRecDepth 20000 in
theorem red_vc (m a : Nat) (hm : m = 8 ∨ m = 16) (ha : a < 2 ^ 40) (K : MM → AV → Prop) (hK : ∀ mm r, r = (redN m 64 a : Nat) → K mm (.d (.v (.int .i64 r)))) :
    vcF (mk gl0 noEq spsF5 Tryd.f132.ntmps (redAn m a)) Tryd.f132 [.d (.v (.int .i64 (m : Int))), .d (.v (.int .i64 (a : Int)))] [] [] K := by
  repeat' (first | refine And.intro ?_ ?_ | intro _ | (refine brK_id ?_; first | with_reducible refine brK_t ?_ | with_reducible refine brK_f ?_ | with_reducible refine brK_dec ?_ ?_ | with_reducible refine brK_ndec ?_ ?_ | refine brK_of ?_ ?_) | exact True.intro | refine hK _ _ ?_ | refine Exists.intro ((by assumption : Nat) ^^^ modN m * 2 ^ (bitsN 64 (by assumption : Nat) - 1 - m)) ?_)
  all_goals (try (refine ⟨?_⟩))
  all_goals (try with_reducible rfl)
  · omega
  · exact ⟨ha, rfl⟩
  all_goals (rename_i x h1 h2)
  · have := bitsN_le 64 x; rw [degF_nat]; unfold in64; omega
  · omega
  · rw [red_sh hm h1.1 h2]; have := red_lt hm h1.1; unfold in64; omega
  · rw [red_sh hm h1.1 h2]; have := red_lt hm h1.1; unfold pos64; omega
  all_goals (try (rw [red_sh hm h1.1 h2]; simp only [Int.toNat_natCast]))
  all_goals (try with_reducible rfl)
  · have h3 : m < bitsN 64 x := by rw [degF_nat] at h2; omega
    have := (red_step hm h1.1 h3).1; omega
  · have h3 : m < bitsN 64 x := by rw [degF_nat] at h2; omega
    exact ⟨⟨(red_step hm h1.1 h3).1, by rw [redN_step hm h1.1 h3]; exact h1.2⟩, (red_step hm h1.1 h3).2⟩
  · have h3 : bitsN 64 x ≤ m := by rw [degF_nat] at h2; omega
    rw [← h1.2, redN_small _ _ _ h3]
/-- field.reduce: of a number below 2^40, in a field that is there -/
def redC : List AV → (AV → Prop) → Prop
  | [.d (.v (.int .i64 m)), .d (.v (.int .i64 a))], K => Ob ((m = 8 ∨ m = 16) ∧ 0 ≤ a ∧ a < 2 ^ 40) ∧ K (.d (.v (.int .i64 (redF m a))))
  | _, _ => False
theorem red_ok : Meets P0 gl0 132 (.lend redC) := by
  intro args K h
  unfold redC at h
  split at h
  · rename_i m a
    obtain ⟨⟨h1, h2, h3⟩, h4⟩ := h
    obtain ⟨a, rfl⟩ := Int.eq_ofNat_of_zero_le h2
    obtain ⟨m, rfl⟩ := Int.eq_ofNat_of_zero_le (show 0 ≤ m by omega)
    exact does_mk noEq_ok spsF5_ok Tryd.func132 (redAn m a) (fun i g s h => by cases h) [] (red_vc m a (by omega) (by omega) _ fun mm r hr => ⟨trivial, by subst hr; exact h4⟩)
  · exact h.elim
attribute [irreducible] redF
def spsF6 : List (Nat × SpecE) := (132, .lend redC) :: (116, .lend timesC) :: spsF5
theorem spsF6_ok : SpsOk gl0 spsF6 := (spsF5_ok.cons ⟨Tryd.f116, Tryd.func116, by decide, rfl⟩ times_ok).cons ⟨Tryd.f132, Tryd.func132, by decide, rfl⟩ red_ok
end Go.Proofs.YtgdcefohfebleaaDoor.V
/- Numbers as polynomials over two elements: products, degrees, divisibility. -/
set_option linter.unusedVariables false
set_option linter.unusedSimpArgs false
namespace Go.Proofs.YtgdcefohfebleaaDoor.P

theorem two_xor (x y : Nat) : 2 * (x ^^^ y) = 2 * x ^^^ 2 * y := by
  have := Nat.shiftLeft_xor_distrib (i := 1) (a := x) (b := y)
  simpa [Nat.shiftLeft_eq, Nat.mul_comm] using this
theorem half_xor (x y : Nat) : (x ^^^ y) / 2 = x / 2 ^^^ y / 2 := by
  have := Nat.xor_div_two_pow (a := x) (b := y) (n := 1)
  simpa using this
theorem mod_xor (x y : Nat) : (x ^^^ y) % 2 = (x % 2 ^^^ y % 2) := by
  have := Nat.xor_mod_two_pow (a := x) (b := y) (n := 1)
  simpa using this
theorem split_two (b : Nat) : b = (b % 2) ^^^ (2 * (b / 2)) := by
  refine Nat.eq_of_testBit_eq fun i => ?_
  rw [Nat.testBit_xor]
  cases i with
  | zero =>
    rcases Nat.mod_two_eq_zero_or_one b with h | h <;> simp [Nat.testBit_zero, h]
  | succ i =>
    rw [Nat.testBit_succ, Nat.testBit_succ, Nat.testBit_succ]
    have h1 : b % 2 / 2 = 0 := by omega
    have h2 : 2 * (b / 2) / 2 = b / 2 := by omega
    rw [h1, h2]; simp

/-- The product. -/
def cm (a b : Nat) : Nat := if b = 0 then 0 else (if b % 2 = 1 then a else 0) ^^^ 2 * cm a (b / 2)
termination_by b
decreasing_by omega
theorem cm_zero (a : Nat) : cm a 0 = 0 := by rw [cm]; simp
theorem cm_step (a b : Nat) : cm a b = (if b % 2 = 1 then a else 0) ^^^ 2 * cm a (b / 2) := by
  by_cases h : b = 0
  · subst h; simp [cm_zero]
  · rw [cm, if_neg h]
theorem cm_two_right (a b : Nat) : cm a (2 * b) = 2 * cm a b := by
  rw [cm_step]
  have h1 : 2 * b % 2 = 0 := by omega
  have h2 : 2 * b / 2 = b := by omega
  rw [h1, h2]; simp
theorem cm_one (a : Nat) : cm a 1 = a := by rw [cm_step]; simp [cm_zero]
theorem cm_ind {p : Nat → Prop} (h0 : p 0) (h : ∀ b, p (b / 2) → p b) (b : Nat) : p b := by
  induction b using Nat.strongRecOn with
  | _ b ih =>
    by_cases hb : b = 0
    · subst hb; exact h0
    · exact h b (ih _ (by omega))
theorem zero_cm (b : Nat) : cm 0 b = 0 := by
  induction b using cm_ind with
  | h0 => exact cm_zero 0
  | h b ih => rw [cm_step, ih]; simp
theorem ite_xor (c : Prop) [Decidable c] (a b : Nat) : (if c then a ^^^ b else 0) = (if c then a else 0) ^^^ (if c then b else 0) := by split <;> simp
theorem ite_two (c : Prop) [Decidable c] (a : Nat) : (if c then 2 * a else 0) = 2 * (if c then a else 0) := by split <;> simp
theorem xor4 (a b c d : Nat) : (a ^^^ b) ^^^ (c ^^^ d) = (a ^^^ c) ^^^ (b ^^^ d) := by
  rw [Nat.xor_assoc, Nat.xor_assoc, ← Nat.xor_assoc b c d, Nat.xor_comm b c, Nat.xor_assoc c b d]
theorem cm_xor_left (a b c : Nat) : cm (a ^^^ b) c = cm a c ^^^ cm b c := by
  induction c using cm_ind with
  | h0 => simp [cm_zero]
  | h c ih => rw [cm_step, ih, cm_step a c, cm_step b c, ite_xor, two_xor, xor4]
theorem cm_two_left (a b : Nat) : cm (2 * a) b = 2 * cm a b := by
  induction b using cm_ind with
  | h0 => simp [cm_zero]
  | h b ih => rw [cm_step, ih, cm_step a b, ite_two, two_xor]
theorem cm_mod_left (a b : Nat) : cm (b % 2) a = if b % 2 = 1 then cm 1 a else 0 := by
  rcases Nat.mod_two_eq_zero_or_one b with h | h <;> simp [h, zero_cm]
theorem one_cm (b : Nat) : cm 1 b = b := by
  induction b using cm_ind with
  | h0 => simp [cm_zero]
  | h b ih =>
    rw [cm_step, ih]
    conv => rhs; rw [split_two b]
    rcases Nat.mod_two_eq_zero_or_one b with h | h <;> simp [h]
theorem cm_comm (a b : Nat) : cm a b = cm b a := by
  induction b using cm_ind with
  | h0 => rw [cm_zero, zero_cm]
  | h b ih =>
    conv => rhs; rw [split_two b, cm_xor_left, cm_two_left, cm_mod_left, one_cm]
    rw [cm_step, ih]
theorem cm_xor_right (a b c : Nat) : cm a (b ^^^ c) = cm a b ^^^ cm a c := by
  rw [cm_comm, cm_xor_left, cm_comm b, cm_comm c]
theorem cm_ite (c : Prop) [Decidable c] (a b : Nat) : cm a (if c then b else 0) = if c then cm a b else 0 := by split <;> simp [cm_zero]
theorem cm_assoc (a b c : Nat) : cm (cm a b) c = cm a (cm b c) := by
  induction c using cm_ind with
  | h0 => simp [cm_zero]
  | h c ih => rw [cm_step, ih, cm_step b c, cm_xor_right, cm_two_right, cm_ite]
theorem cm_pow_right (a b : Nat) : ∀ s, cm a (b * 2 ^ s) = cm a b * 2 ^ s
  | 0 => by simp
  | s + 1 => by
    have e : b * 2 ^ (s + 1) = 2 * (b * 2 ^ s) := by rw [Nat.pow_succ]; ac_rfl
    rw [e, cm_two_right, cm_pow_right a b s, Nat.pow_succ]; ac_rfl

/-! ### degrees -/
/-- the highest bit is bit k -/
def Deg (a k : Nat) : Prop := 2 ^ k ≤ a ∧ a < 2 ^ (k + 1)
theorem deg_exists {a : Nat} (h : a ≠ 0) : ∃ k, Deg a k := ⟨a.log2, Nat.log2_self_le h, Nat.lt_log2_self⟩
theorem xor_low {x y k : Nat} (hx : x < 2 ^ k) (hy : Deg y k) : Deg (x ^^^ y) k := by
  refine ⟨?_, ?_⟩
  · have h1 : (x ^^^ y).testBit k = true := by
      rw [Nat.testBit_xor, Nat.testBit_lt_two_pow hx, Nat.testBit_of_two_pow_le_and_two_pow_add_one_gt hy.1 hy.2]; rfl
    exact Nat.ge_two_pow_of_testBit h1
  · exact Nat.xor_lt_two_pow (Nat.lt_of_lt_of_le hx (Nat.pow_le_pow_right (by omega) (by omega))) hy.2
theorem deg_two {a k : Nat} (h : Deg a k) : Deg (2 * a) (k + 1) := by
  unfold Deg at *
  rw [Nat.pow_succ 2 (k + 1)]
  have := Nat.pow_succ 2 k
  omega
theorem deg_cm {a i : Nat} (ha : Deg a i) : ∀ {j b : Nat}, Deg b j → Deg (cm a b) (i + j)
  | 0, b, hb => by
    have : b = 1 := by unfold Deg at hb; omega
    subst this; rw [cm_one]; exact ha
  | j + 1, b, hb => by
    have h1 : Deg (b / 2) j := by
      unfold Deg at *
      rw [Nat.pow_succ 2 (j + 1)] at hb
      have := Nat.pow_succ 2 j
      omega
    have h2 := deg_two (deg_cm ha h1)
    rw [cm_step]
    refine xor_low ?_ h2
    have h3 : (2 : Nat) ^ (i + 1) ≤ 2 ^ (i + j + 1) := Nat.pow_le_pow_right (by omega) (by omega)
    split
    · exact Nat.lt_of_lt_of_le ha.2 h3
    · exact Nat.pow_pos (by omega)
theorem deg_unique {a i j : Nat} (h : Deg a i) (h' : Deg a j) : i = j := by
  rcases Nat.lt_trichotomy i j with hlt | he | hgt
  · have := Nat.pow_le_pow_right (n := 2) (by omega) (show i + 1 ≤ j by omega)
    have := h.2; have := h'.1; omega
  · exact he
  · have := Nat.pow_le_pow_right (n := 2) (by omega) (show j + 1 ≤ i by omega)
    have := h'.2; have := h.1; omega
theorem deg_ne {a i : Nat} (h : Deg a i) : a ≠ 0 := by
  have := h.1; have := Nat.pow_pos (n := i) (show 0 < 2 by omega); omega
theorem cm_ne {a b : Nat} (ha : a ≠ 0) (hb : b ≠ 0) : cm a b ≠ 0 := by
  obtain ⟨i, hi⟩ := deg_exists ha
  obtain ⟨j, hj⟩ := deg_exists hb
  exact deg_ne (deg_cm hi hj)
theorem deg_lt_of {a i k : Nat} (h : Deg a i) (hk : a < 2 ^ k) : i < k := by
  rcases Nat.lt_or_ge i k with h1 | h1
  · exact h1
  · have := Nat.pow_le_pow_right (n := 2) (by omega) h1
    have := h.1; omega
theorem lt_of_deg {a i k : Nat} (h : Deg a i) (hk : i < k) : a < 2 ^ k :=
  Nat.lt_of_lt_of_le h.2 (Nat.pow_le_pow_right (by omega) hk)

/-! ### divisibility -/
def Dvd (d n : Nat) : Prop := ∃ q, n = cm d q
theorem dvd_xor {d x y : Nat} (hx : Dvd d x) (hy : Dvd d y) : Dvd d (x ^^^ y) := by
  obtain ⟨p, rfl⟩ := hx
  obtain ⟨q, rfl⟩ := hy
  exact ⟨p ^^^ q, (cm_xor_right d p q).symm⟩
theorem dvd_shl {d x : Nat} (hx : Dvd d x) (s : Nat) : Dvd d (x * 2 ^ s) := by
  obtain ⟨p, rfl⟩ := hx
  exact ⟨p * 2 ^ s, (cm_pow_right d p s).symm⟩
theorem xor_xor (x y : Nat) : x ^^^ y ^^^ y = x := by rw [Nat.xor_assoc, Nat.xor_self, Nat.xor_zero]
/-- the remainder of n by d, d's highest bit being bit k; f rounds from bit k + f - 1 down -/
def remN (d k : Nat) : Nat → Nat → Nat
  | 0, n => n
  | f + 1, n => remN d k f (if n / 2 ^ (k + f) % 2 = 1 then n ^^^ d * 2 ^ f else n)
theorem dvd_rem {d k : Nat} : ∀ f n, Dvd d n → Dvd d (remN d k f n)
  | 0, n, h => h
  | f + 1, n, h => by
    refine dvd_rem f _ ?_
    split
    · exact dvd_xor h (dvd_shl ⟨1, (cm_one d).symm⟩ f)
    · exact h
theorem shl_deg {d k : Nat} (h : Deg d k) (f : Nat) : Deg (d * 2 ^ f) (k + f) := by
  have h1 := h.1
  have h2 := h.2
  have hp : 0 < 2 ^ f := Nat.pow_pos (by omega)
  refine ⟨?_, ?_⟩
  · rw [Nat.pow_add]; exact Nat.mul_le_mul_right _ h1
  · rw [show k + f + 1 = (k + 1) + f by omega, Nat.pow_add]; exact Nat.mul_lt_mul_of_pos_right h2 hp
theorem top_xor {x y k : Nat} (hx : Deg x k) (hy : Deg y k) : x ^^^ y < 2 ^ k := by
  refine Nat.lt_pow_two_of_testBit _ fun i hi => ?_
  rw [Nat.testBit_xor]
  rcases Nat.lt_or_ge k i with h | h
  · rw [Nat.testBit_lt_two_pow (lt_of_deg hx h), Nat.testBit_lt_two_pow (lt_of_deg hy h)]; rfl
  · obtain rfl : i = k := by omega
    rw [Nat.testBit_of_two_pow_le_and_two_pow_add_one_gt hx.1 hx.2, Nat.testBit_of_two_pow_le_and_two_pow_add_one_gt hy.1 hy.2]; rfl
theorem rem_lt {d k : Nat} (hd : Deg d k) : ∀ f n, n < 2 ^ (k + f) → remN d k f n < 2 ^ k
  | 0, n, h => h
  | f + 1, n, h => by
    refine rem_lt hd f _ ?_
    split
    · rename_i hb
      refine top_xor ⟨?_, h⟩ (shl_deg hd f)
      rcases Nat.lt_or_ge n (2 ^ (k + f)) with h1 | h1
      · rw [Nat.div_eq_of_lt h1] at hb; omega
      · exact h1
    · rename_i hb
      rcases Nat.lt_or_ge n (2 ^ (k + f)) with h1 | h1
      · exact h1
      · exfalso
        apply hb
        have h2 : n / 2 ^ (k + f) = 1 := by
          have hp : 0 < 2 ^ (k + f) := Nat.pow_pos (by omega)
          have h3 : n < 2 ^ (k + f) * 2 := by rw [← Nat.pow_succ]; exact h
          refine Nat.le_antisymm ?_ ?_
          · have := (Nat.div_lt_iff_lt_mul hp).2 (show n < 2 * 2 ^ (k + f) by omega); omega
          · exact (Nat.le_div_iff_mul_le hp).2 (by omega)
        rw [h2]
theorem dvd_small {d k n : Nat} (hd : Deg d k) (hn : n < 2 ^ k) (h : Dvd d n) : n = 0 := by
  obtain ⟨q, rfl⟩ := h
  by_cases hq : q = 0
  · subst hq; exact cm_zero d
  · obtain ⟨j, hj⟩ := deg_exists hq
    have := deg_lt_of (deg_cm hd hj) hn
    omega
theorem not_dvd_of_rem {d k f n : Nat} (hd : Deg d k) (hn : n < 2 ^ (k + f)) (h : remN d k f n ≠ 0) : ¬ Dvd d n := fun hv =>
  h (dvd_small hd (rem_lt hd f n hn) (dvd_rem f n hv))
/-- no number of degree 1 to k divides n -/
def noDiv (n k f : Nat) : Bool := (List.range k).all fun j => (List.range (2 ^ (j + 1))).all fun i => remN (2 ^ (j + 1) + i) (j + 1) f n != 0
theorem noDiv_ok {n k f : Nat} (hn : n < 2 ^ (f + 1)) (h : noDiv n k f = true) {d j : Nat} (hd : Deg d j) (h1 : 1 ≤ j) (h2 : j ≤ k) : ¬ Dvd d n := by
  unfold noDiv at h
  rw [List.all_eq_true] at h
  have h3 := h (j - 1) (List.mem_range.2 (by omega))
  rw [List.all_eq_true] at h3
  rw [show j - 1 + 1 = j by omega] at h3
  have h5 := hd.1
  have h6 := hd.2
  rw [Nat.pow_succ] at h6
  have h4 := h3 (d - 2 ^ j) (List.mem_range.2 (by omega))
  rw [show 2 ^ j + (d - 2 ^ j) = d by omega] at h4
  refine not_dvd_of_rem hd (f := f) (Nat.lt_of_lt_of_le hn (Nat.pow_le_pow_right (by omega) (by omega))) (by simpa using h4)
/-- a number of degree m that no number of degree 1 to m / 2 divides: nor does any of degree 1 to m - 1 -/
theorem prime_of {n m : Nat} (hn : Deg n m) (h : ∀ d j, Deg d j → 1 ≤ j → j ≤ m / 2 → ¬ Dvd d n) {d j : Nat} (hd : Deg d j) (h1 : 1 ≤ j) (h2 : j < m) : ¬ Dvd d n := by
  rintro ⟨q, hq⟩
  have hq0 : q ≠ 0 := by rintro rfl; rw [cm_zero] at hq; exact deg_ne hn hq
  obtain ⟨i, hi⟩ := deg_exists hq0
  have h3 : i + j = m := by
    have := deg_unique (hq ▸ hn) (deg_cm hd hi); omega
  rcases Nat.lt_or_ge (m / 2) j with h4 | h4
  · exact h q i hi (by omega) (by omega) ⟨d, by rw [hq, cm_comm]⟩
  · exact h d j hd h1 h4 ⟨q, hq⟩
theorem prime8 {d j : Nat} (hd : Deg d j) (h1 : 1 ≤ j) (h2 : j < 8) : ¬ Dvd d 285 :=
  prime_of (n := 285) (m := 8) ⟨by decide, by decide⟩ (fun d j hd h1 h2 => noDiv_ok (f := 8) (k := 4) (by decide) (by decide +kernel) hd h1 (by omega)) hd h1 h2
theorem prime16 {d j : Nat} (hd : Deg d j) (h1 : 1 ≤ j) (h2 : j < 16) : ¬ Dvd d 69643 :=
  prime_of (n := 69643) (m := 16) ⟨by decide, by decide⟩ (fun d j hd h1 h2 => noDiv_ok (f := 16) (k := 8) (by decide) (by decide +kernel) hd h1 (by omega)) hd h1 h2
end Go.Proofs.YtgdcefohfebleaaDoor.P
/- field.inverse: plain part -/
set_option linter.unusedVariables false
set_option linter.unusedSimpArgs false
namespace Go.Proofs.YtgdcefohfebleaaDoor.V
open Go Go.Proofs P

structure Iv where
  f : Nat
  u : Nat
  v : Nat
  x : Nat
  y : Nat
def ivStep (s : Iv) : Iv :=
  if bitsN 64 s.u < bitsN 64 s.v then ⟨s.f - 1, s.v ^^^ s.u * 2 ^ (bitsN 64 s.v - bitsN 64 s.u), s.u, s.y ^^^ s.x * 2 ^ (bitsN 64 s.v - bitsN 64 s.u), s.x⟩
  else ⟨s.f - 1, s.u ^^^ s.v * 2 ^ (bitsN 64 s.u - bitsN 64 s.v), s.v, s.x ^^^ s.y * 2 ^ (bitsN 64 s.u - bitsN 64 s.v), s.y⟩
def ivN : Nat → Iv → Nat
  | 0, s => s.x
  | f + 1, s => if s.u = 1 then s.x else ivN f (ivStep s)
/-- equal up to a multiple of p -/
def Cg (p a b : Nat) : Prop := Dvd p (a ^^^ b)
theorem Cg.refl (p a : Nat) : Cg p a a := ⟨0, by rw [cm_zero, Nat.xor_self]⟩
theorem Cg.symm {p a b : Nat} (h : Cg p a b) : Cg p b a := by unfold Cg at *; rw [Nat.xor_comm]; exact h
theorem Cg.trans {p a b c : Nat} (h : Cg p a b) (h' : Cg p b c) : Cg p a c := by
  have := dvd_xor h h'
  unfold Cg
  rwa [show a ^^^ b ^^^ (b ^^^ c) = a ^^^ c by rw [Nat.xor_assoc, ← Nat.xor_assoc b b c, Nat.xor_self, Nat.zero_xor]] at this
theorem Cg.xor {p a b c d : Nat} (h : Cg p a b) (h' : Cg p c d) : Cg p (a ^^^ c) (b ^^^ d) := by
  have := dvd_xor h h'
  unfold Cg
  rwa [xor4] at this
theorem Cg.shl {p a b : Nat} (h : Cg p a b) (s : Nat) : Cg p (a * 2 ^ s) (b * 2 ^ s) := by
  obtain ⟨q, hq⟩ := h
  refine ⟨q * 2 ^ s, ?_⟩
  rw [cm_pow_right, ← hq]
  have := Nat.shiftLeft_xor_distrib (i := s) (a := a) (b := b)
  simpa [Nat.shiftLeft_eq] using this.symm
/-- two with no common divisor of degree 1 or more -/
def Cop (u v : Nat) : Prop := ∀ d j, Deg d j → 1 ≤ j → Dvd d u → ¬ Dvd d v
structure IvOk (m a : Nat) (s : Iv) : Prop where
  u0 : s.u ≠ 0
  v0 : 2 ≤ s.v
  ub : bitsN 64 s.u ≤ m + 1
  vb : bitsN 64 s.v ≤ m + 1
  xv : bitsN 64 s.x + bitsN 64 s.v ≤ m + 2
  yu : bitsN 64 s.y + bitsN 64 s.u ≤ m + 2
  us : s.u < 2 ^ 40
  vs : s.v < 2 ^ 40
  xs : s.x < 2 ^ 40
  ys : s.y < 2 ^ 40
  cop : Cop s.u s.v
  fuel : bitsN 64 s.u + bitsN 64 s.v ≤ s.f
  xu : Cg (modN m) (cm a s.x) s.u
  yv : Cg (modN m) (cm a s.y) s.v
theorem deg_bits {a : Nat} (h0 : a ≠ 0) (h : a < 2 ^ 62) : Deg a (bitsN 64 a - 1) :=
  ⟨bits_ge 64 a h0 (by omega), by rw [Nat.sub_add_cancel (bits_pos h0)]; exact bits_lt 64 a (by omega)⟩
theorem cop_step {u v s : Nat} (h : Cop u v) : Cop (u ^^^ v * 2 ^ s) v := fun d j hd hj h1 h2 => by
  have := dvd_xor h1 (dvd_shl h2 s)
  rw [xor_xor] at this
  exact h d j hd hj this h2
theorem cop_ne {u v s : Nat} (hv : 2 ≤ v) (h : Cop u v) : u ^^^ v * 2 ^ s ≠ 0 := fun e => by
  obtain ⟨j, hj⟩ := deg_exists (show v ≠ 0 by omega)
  have hj1 : 1 ≤ j := by
    rcases Nat.eq_zero_or_pos j with rfl | h
    · have := hj.2; omega
    · exact h
  have e2 : u = v * 2 ^ s := by
    have := xor_xor u (v * 2 ^ s); rw [e, Nat.zero_xor] at this; exact this.symm
  exact h v j hj hj1 (e2 ▸ dvd_shl ⟨1, (cm_one v).symm⟩ s) ⟨1, (cm_one v).symm⟩
theorem cop_symm {u v : Nat} (h : Cop u v) : Cop v u := fun d j hd hj h1 h2 => h d j hd hj h2 h1
theorem bits_zero : bitsN 64 0 = 0 := rfl
theorem mul_pow_lt {v s : Nat} (hv : v < 2 ^ 40) (hs : s ≤ 20) : v * 2 ^ s < 2 ^ 62 := by
  have h2 : (2 : Nat) ^ s ≤ 2 ^ 20 := Nat.pow_le_pow_right (by omega) hs
  calc v * 2 ^ s ≤ v * 2 ^ 20 := Nat.mul_le_mul_left _ h2
    _ < 2 ^ 62 := by omega
theorem lt_of_bits {x k : Nat} (h : x < 2 ^ 62) (hk : bitsN 64 x ≤ k) (hk2 : k ≤ 40) : x < 2 ^ 40 :=
  Nat.lt_of_lt_of_le (bits_lt 64 x (by omega)) (Nat.pow_le_pow_right (by omega) (by omega))
/-- the heart: u loses its top bit -/
theorem iv_half {m a f u v x y : Nat} (hm : m ≤ 16) (u0 : u ≠ 0) (v0 : 2 ≤ v) (ub : bitsN 64 u ≤ m + 1) (vb : bitsN 64 v ≤ m + 1) (xv : bitsN 64 x + bitsN 64 v ≤ m + 2) (yu : bitsN 64 y + bitsN 64 u ≤ m + 2)
    (us : u < 2 ^ 40) (vs : v < 2 ^ 40) (xs : x < 2 ^ 40) (ys : y < 2 ^ 40) (cop : Cop u v) (fuel : bitsN 64 u + bitsN 64 v ≤ f) (xu : Cg (modN m) (cm a x) u) (yv : Cg (modN m) (cm a y) v) (hle : bitsN 64 v ≤ bitsN 64 u) :
    IvOk m a ⟨f - 1, u ^^^ v * 2 ^ (bitsN 64 u - bitsN 64 v), v, x ^^^ y * 2 ^ (bitsN 64 u - bitsN 64 v), y⟩ := by
  have hs : bitsN 64 u - bitsN 64 v ≤ 20 := by omega
  have hv1 := bits_pos (show v ≠ 0 by omega)
  have hvs := mul_pow_lt vs hs
  have hys := mul_pow_lt ys hs
  have hb2 : bitsN 64 (v * 2 ^ (bitsN 64 u - bitsN 64 v)) = bitsN 64 u := by rw [bits_shl (by omega) _ hvs]; omega
  have h3 := bits_xor_top u0 (Nat.mul_ne_zero (by omega) (Nat.ne_of_gt (Nat.pow_pos (by omega)))) (by omega) hvs hb2.symm
  have h4 : bitsN 64 (y * 2 ^ (bitsN 64 u - bitsN 64 v)) ≤ m + 2 - bitsN 64 v := by
    by_cases hy : y = 0
    · subst hy; rw [Nat.zero_mul, bits_zero]; omega
    · rw [bits_shl hy _ hys]; omega
  have h5 := bits_xor_le (a := x) (b := y * 2 ^ (bitsN 64 u - bitsN 64 v)) (k := m + 2 - bitsN 64 v) (by omega) hys (by omega) h4
  have h6 : x ^^^ y * 2 ^ (bitsN 64 u - bitsN 64 v) < 2 ^ 62 := Nat.xor_lt_two_pow (by omega) hys
  have h7 : u ^^^ v * 2 ^ (bitsN 64 u - bitsN 64 v) < 2 ^ 62 := Nat.xor_lt_two_pow (by omega) hvs
  refine ⟨cop_ne v0 cop, v0, ?_, vb, ?_, ?_, ?_, vs, ?_, ys, cop_step cop, ?_, ?_, yv⟩
  · show bitsN 64 (u ^^^ v * 2 ^ (bitsN 64 u - bitsN 64 v)) ≤ m + 1; omega
  · show bitsN 64 (x ^^^ y * 2 ^ (bitsN 64 u - bitsN 64 v)) + bitsN 64 v ≤ m + 2; omega
  · show bitsN 64 y + bitsN 64 (u ^^^ v * 2 ^ (bitsN 64 u - bitsN 64 v)) ≤ m + 2; omega
  · exact lt_of_bits (k := m + 1) h7 (by show bitsN 64 (u ^^^ v * 2 ^ (bitsN 64 u - bitsN 64 v)) ≤ m + 1; omega) (by omega)
  · exact lt_of_bits h6 h5 (by omega)
  · show bitsN 64 (u ^^^ v * 2 ^ (bitsN 64 u - bitsN 64 v)) + bitsN 64 v ≤ f - 1; omega
  · show Cg (modN m) (cm a (x ^^^ y * 2 ^ (bitsN 64 u - bitsN 64 v))) _
    rw [cm_xor_right, cm_pow_right]
    exact xu.xor (yv.shl _)
theorem iv_step {m a : Nat} (hm : m ≤ 16) {s : Iv} (h : IvOk m a s) (hu : s.u ≠ 1) : IvOk m a (ivStep s) := by
  unfold ivStep
  split
  · rename_i hlt
    have h0 := h.u0
    exact iv_half hm (by have := h.v0; omega) (by omega) h.vb h.ub h.yu h.xv h.vs h.us h.ys h.xs (cop_symm h.cop) (by have := h.fuel; omega) h.yv h.xu (by omega)
  · rename_i hlt
    exact iv_half hm h.u0 h.v0 h.ub h.vb h.xv h.yu h.us h.vs h.xs h.ys h.cop h.fuel h.xu h.yv (by omega)
theorem ivN_step {f : Nat} {s : Iv} (hf : s.f = f + 1) (hu : s.u ≠ 1) : ivN s.f s = ivN (ivStep s).f (ivStep s) := by
  have h1 : (ivStep s).f = s.f - 1 := by unfold ivStep; split <;> rfl
  rw [h1, hf]
  show (if s.u = 1 then s.x else ivN f (ivStep s)) = _
  rw [if_neg hu]; rfl
theorem ivN_one {s : Iv} (hu : s.u = 1) : ivN s.f s = s.x := by
  cases h : s.f with
  | zero => rfl
  | succ f => show (if s.u = 1 then s.x else ivN f (ivStep s)) = _; rw [if_pos hu]
def iv0 (m a : Nat) : Iv := ⟨64, a, modN m, 1, 0⟩
theorem iv_init {m a : Nat} (hm : m = 8 ∨ m = 16) (h0 : a ≠ 0) (ha : a < 2 ^ m) : IvOk m a (iv0 m a) := by
  have hmN : 2 ≤ modN m ∧ bitsN 64 (modN m) = m + 1 ∧ modN m < 2 ^ 40 ∧ m ≤ 16 := by rcases hm with rfl | rfl <;> decide
  have hab : bitsN 64 a ≤ m := bits_le_of 64 a m ha
  have ha40 : a < 2 ^ 40 := Nat.lt_of_lt_of_le ha (Nat.pow_le_pow_right (by omega) (by omega))
  have h1 : bitsN 64 1 = 1 := rfl
  refine ⟨h0, hmN.1, ?_, ?_, ?_, ?_, ha40, hmN.2.2.1, ?_, ?_, ?_, ?_, ?_, ?_⟩
  · show bitsN 64 a ≤ m + 1; omega
  · show bitsN 64 (modN m) ≤ m + 1; omega
  · show bitsN 64 1 + bitsN 64 (modN m) ≤ m + 2; omega
  · show bitsN 64 0 + bitsN 64 a ≤ m + 2; rw [bits_zero]; omega
  · show 1 < 2 ^ 40; decide
  · show 0 < 2 ^ 40; decide
  · intro d j hd hj h2 h3
    have hjm : j < m := by
      obtain ⟨q, hq⟩ := h2
      have hq' : a = cm d q := hq
      have hq0 : q ≠ 0 := by rintro rfl; rw [cm_zero] at hq'; exact h0 hq'
      obtain ⟨i, hi⟩ := deg_exists hq0
      have h4 := deg_cm hd hi
      rw [← hq'] at h4
      have := deg_lt_of h4 ha
      omega
    rcases hm with rfl | rfl
    · exact prime8 hd hj hjm h3
    · exact prime16 hd hj hjm h3
  · show bitsN 64 a + bitsN 64 (modN m) ≤ 64; omega
  · show Cg (modN m) (cm a 1) a; rw [cm_one]; exact Cg.refl _ _
  · show Cg (modN m) (cm a 0) (modN m)
    rw [cm_zero]
    exact ⟨1, by rw [cm_one, Nat.zero_xor]⟩
end Go.Proofs.YtgdcefohfebleaaDoor.V
/- field.inverse -/
set_option linter.unusedVariables false
set_option linter.unusedSimpArgs false
namespace Go.Proofs.YtgdcefohfebleaaDoor.V
open Go Go.Proofs P

theorem sh_sub (z p q : Nat) (hp : p ≤ 20) : (z : Int) * 2 ^ min ((((p : Nat) : Int) - 1) - (((q : Nat) : Int) - 1)).toNat IntKind.i64.bits = ((z * 2 ^ (p - q) : Nat) : Int) := by
  have h1 : min ((((p : Nat) : Int) - 1) - (((q : Nat) : Int) - 1)).toNat IntKind.i64.bits = p - q := by
    have : IntKind.i64.bits = 64 := rfl
    omega
  rw [h1, Int.natCast_mul, Int.natCast_pow]; rfl
theorem sh_neg (z p q : Nat) (hp : p ≤ 20) : (z : Int) * 2 ^ min (0 - ((((q : Nat) : Int) - 1) - (((p : Nat) : Int) - 1))).toNat IntKind.i64.bits = ((z * 2 ^ (p - q) : Nat) : Int) := by
  rw [show (0 : Int) - ((((q : Nat) : Int) - 1) - (((p : Nat) : Int) - 1)) = (((p : Nat) : Int) - 1) - (((q : Nat) : Int) - 1) by omega]
  exact sh_sub z p q hp
theorem in64_nat {x : Nat} (h : x < 2 ^ 62) : in64 (x : Int) := by unfold in64; omega
theorem pos64_nat {x : Nat} (h : x < 2 ^ 62) : pos64 (x : Int) := by unfold pos64; omega
theorem iv_lt {s : Iv} (h : bitsN 64 s.u < bitsN 64 s.v) : ivStep s = ⟨s.f - 1, s.v ^^^ s.u * 2 ^ (bitsN 64 s.v - bitsN 64 s.u), s.u, s.y ^^^ s.x * 2 ^ (bitsN 64 s.v - bitsN 64 s.u), s.x⟩ := by unfold ivStep; rw [if_pos h]
theorem iv_ge {s : Iv} (h : ¬ bitsN 64 s.u < bitsN 64 s.v) : ivStep s = ⟨s.f - 1, s.u ^^^ s.v * 2 ^ (bitsN 64 s.u - bitsN 64 s.v), s.v, s.x ^^^ s.y * 2 ^ (bitsN 64 s.u - bitsN 64 s.v), s.y⟩ := by unfold ivStep; rw [if_neg h]
theorem iv_round {m a : Nat} (hm : m ≤ 16) {s : Iv} (h : IvOk m a s ∧ ivN s.f s = ivN 64 (iv0 m a)) (hu : s.u ≠ 1) : (IvOk m a (ivStep s) ∧ ivN (ivStep s).f (ivStep s) = ivN 64 (iv0 m a)) ∧ (ivStep s).f < s.f := by
  have h0 := h.1.fuel
  have h1 := bits_pos h.1.u0
  obtain ⟨f, hf⟩ : ∃ f, s.f = f + 1 := ⟨s.f - 1, by omega⟩
  refine ⟨⟨iv_step hm h.1 hu, by rw [← ivN_step hf hu]; exact h.2⟩, ?_⟩
  unfold ivStep; split <;> (show s.f - 1 < s.f; omega)
attribute [local irreducible] bitsN redN prodN prodStep modN modF ivStep ivN
def invAn (m a : Nat) : An := { ann := fun k => bif Nat.beq k 3 then some { ι := Iv, nils := [], vars := fun s => [(5, .d (.v (.int .i64 (s.u : Int)))), (6, .d (.v (.int .i64 (s.v : Int)))), (7, .d (.v (.int .i64 (s.x : Int)))), (8, .d (.v (.int .i64 (s.y : Int))))], mem := fun i => [], inv := fun s => IvOk m a s ∧ ivN s.f s = ivN 64 (iv0 m a), init := iv0 m a, meas := fun s => s.f } else none }
set_option maxRecDepth 20000 in
theorem inv_vc (m a : Nat) (hm : m = 8 ∨ m = 16) (h0 : a ≠ 0) (ha : a < 2 ^ m) (K : MM → AV → Prop) (hK : ∀ mm r, r = redF m (ivN 64 (iv0 m a) : Nat) → K mm (.d (.v (.int .i64 r)))) :
    vcF (mk gl0 noEq spsF6 Tryd.f125.ntmps (invAn m a)) Tryd.f125 [.d (.v (.int .i64 (m : Int))), .d (.v (.int .i64 (a : Int)))] [] [] K := by
  repeat' (first | refine And.intro ?_ ?_ | intro _ | (refine brK_id ?_; first | with_reducible refine brK_t ?_ | with_reducible refine brK_f ?_ | with_reducible refine brK_dec ?_ ?_ | with_reducible refine brK_ndec ?_ ?_ | refine brK_of ?_ ?_) | exact True.intro | refine hK _ _ ?_ | refine Exists.intro (ivStep (by assumption)) ?_)
  all_goals (try (refine ⟨?_⟩))
  all_goals (try with_reducible rfl)
  · exact ⟨iv_init hm h0 ha, rfl⟩
  · rfl
  · exact modN_eq m
  · rfl
  · rfl
  all_goals (have hm16 : m ≤ 16 := by omega)
  all_goals (obtain ⟨hI, hR⟩ := (by assumption : IvOk m a (by assumption : Iv) ∧ ivN (by assumption : Iv).f (by assumption : Iv) = ivN 64 (iv0 m a)))
  all_goals (have hus := hI.us; have hvs := hI.vs; have hxs := hI.xs; have hys := hI.ys; have hub := hI.ub; have hvb := hI.vb)
  all_goals (have hu1 := bits_pos hI.u0; have hv1 := bits_pos (show (by assumption : Iv).v ≠ 0 by have := hI.v0; omega))
  all_goals (try (exact iv_round hm16 ⟨hI, hR⟩ (by omega)))
  all_goals (try simp only [degF_nat] at *)
  all_goals (try simp only [sh_sub _ _ _ (show bitsN 64 (by assumption : Iv).u ≤ 20 by omega), sh_neg _ _ _ (show bitsN 64 (by assumption : Iv).v ≤ 20 by omega), Int.toNat_natCast])
  all_goals (try omega)
  all_goals (try (unfold in64; omega))
  all_goals (try (exact in64_nat (mul_pow_lt (by assumption) (by omega))))
  all_goals (try (exact ⟨pos64_nat (by omega), pos64_nat (mul_pow_lt (by assumption) (by omega))⟩))
  all_goals (try (rw [iv_lt (by omega)]; done))
  all_goals (try (rw [iv_ge (by omega)]; done))
  · rw [← hR, ivN_one (by omega)]
end Go.Proofs.YtgdcefohfebleaaDoor.V
/- field.inverse, field.Inv: what calls of them do -/
set_option linter.unusedVariables false
set_option linter.unusedSimpArgs false
namespace Go.Proofs.YtgdcefohfebleaaDoor.V
open Go Go.Proofs

def invF (m a : Int) : Int := redF m (ivN 64 (iv0 m.toNat a.toNat) : Nat)
theorem allF1 {m a : Int} (h : allF m [a] = true) : (m = 8 ∨ m = 16) ∧ badF m a = false := by
  unfold allF anyF at h
  simp only [Bool.and_eq_true, Bool.not_eq_true', decide_eq_false_iff_not] at h
  obtain ⟨h1, h2⟩ := h
  refine ⟨modF_pos h1, ?_⟩
  simp [List.range_succ] at h2
  simpa using h2
def inverseC : List AV → (AV → Prop) → Prop
  | [.d (.v (.int .i64 m)), .d (.v (.int .i64 a))], K => Ob (allF m [a] = true ∧ a ≠ 0) ∧ K (.d (.v (.int .i64 (invF m a))))
  | _, _ => False
theorem inverse_ok : Meets P0 gl0 125 (.lend inverseC) := by
  intro args K h
  unfold inverseC at h
  split at h
  · rename_i m a
    obtain ⟨⟨h1, h0⟩, h2⟩ := h
    obtain ⟨hm, ha⟩ := allF1 h1
    obtain ⟨a, rfl, ha2⟩ := badF_lt hm ha
    obtain ⟨m, rfl⟩ := Int.eq_ofNat_of_zero_le (show 0 ≤ m by omega)
    exact does_mk noEq_ok spsF6_ok Tryd.func125 (invAn m a) (fun i g s h => by cases h) [] (inv_vc m a (by omega) (by omega) ha2 _ fun mm r hr => ⟨trivial, by subst hr; exact h2⟩)
  · exact h.elim
attribute [irreducible] invF
/-- field.Inv -/
def InvF (m a : Int) : Int := if allF m [a] = true then (if a = 0 then 0 else invF m a) else 0
def InvE (m a : Int) : Int := if allF m [a] = true then (if a = 0 then 12 else 0) else 1
def InvC : List AV → (AV → Prop) → Prop
  | [.d (.v (.int .i64 m)), .d (.v (.int .i64 a))], K => K (.tup [.d (.v (.int .i64 (InvF m a))), .d (.v (.int .i64 (InvE m a)))])
  | _, _ => False
def spsF7 : List (Nat × SpecE) := (125, .lend inverseC) :: spsF6
theorem spsF7_ok : SpsOk gl0 spsF7 := spsF6_ok.cons ⟨Tryd.f125, Tryd.func125, by decide, rfl⟩ inverse_ok
theorem Inv_ok : Meets P0 gl0 115 (.lend InvC) := by
  intro args K h
  unfold InvC at h
  split at h
  · rename_i m a
    have hK : ∀ r e, r = InvF m a → e = InvE m a → K (.tup [.d (.v (.int .i64 r)), .d (.v (.int .i64 e))]) := fun r e hr he => by rw [hr, he]; exact h
    refine does_mk noEq_ok spsF7_ok Tryd.func115 {} (fun i g s h => by cases h) [] ?_
    repeat' (first | refine And.intro ?_ ?_ | intro _ | (refine brK_id ?_; first | with_reducible refine brK_t ?_ | with_reducible refine brK_f ?_ | with_reducible refine brK_dec ?_ ?_ | with_reducible refine brK_ndec ?_ ?_ | refine brK_of ?_ ?_) | exact True.intro | refine hK _ _ ?_ ?_)
    all_goals (try (refine ⟨?_⟩))
    all_goals (try with_reducible rfl)
    all_goals (try (simp only [DV.len, List.length_cons, List.length_nil]; done))
    all_goals (try (unfold InvF))
    all_goals (try (unfold InvE))
    all_goals (try simp_all)
  · exact h.elim
attribute [irreducible] InvF InvE
def spsF8 : List (Nat × SpecE) := (115, .lend InvC) :: spsF7
theorem spsF8_ok : SpsOk gl0 spsF8 := spsF7_ok.cons ⟨Tryd.f115, Tryd.func115, by decide, rfl⟩ Inv_ok
end Go.Proofs.YtgdcefohfebleaaDoor.V
/- Representations that say the same; slices.IndexFunc, ContainsFunc of rows; erasure.every -/
set_option linter.unusedVariables false
set_option linter.unusedSimpArgs false
namespace Go.Proofs.YtgdcefohfebleaaDoor.V
open Go Go.Proofs

/-- Whatever a tells, b tells. -/
def Le (a b : AV) : Prop := ∀ w ok β v, AV.rep w ok β a v → AV.rep w ok β b v
def Les (a b : List AV) : Prop := ∀ w ok β vs, AV.reps w ok β a vs → AV.reps w ok β b vs
theorem Le.refl (a : AV) : Le a a := fun _ _ _ _ h => h
theorem Le.trans {a b c : AV} (h : Le a b) (h' : Le b c) : Le a c := fun w ok β v hv => h' w ok β v (h w ok β v hv)
theorem Les.refl (l : List AV) : Les l l := fun _ _ _ _ h => h
theorem Les.cons {a b : AV} {l m : List AV} (h : Le a b) (hl : Les l m) : Les (a :: l) (b :: m) := by
  rintro w ok β vs ⟨v, rest, rfl, h1, h2⟩
  exact ⟨v, rest, rfl, h _ _ _ _ h1, hl _ _ _ _ h2⟩
theorem Le.agg {l m : List AV} (h : Les l m) : Le (.agg l) (.agg m) := by
  rintro w ok β v ⟨vs, rfl, h1, h2⟩
  exact ⟨vs, rfl, h1, h _ _ _ _ h2⟩
theorem Le.tup {l m : List AV} (h : Les l m) : Le (.tup l) (.tup m) := by
  rintro w ok β v ⟨vs, rfl, h2⟩
  exact ⟨vs, rfl, h _ _ _ _ h2⟩
theorem Le.normA (a : AV) : Le a (normA a) := fun w ok β v h => normA_rep a h
theorem Le.d_ep (m : Nat) (f : Nat → DV) : Le (.d (.ep m f)) (.ep m f) := fun _ _ _ _ h => h
/-- data that say the same where it counts -/
def DLe (x y : DV) : Prop := ∀ w ok v, DV.rep w ok x v → DV.rep w ok y v
theorem DLe.le {x y : DV} (h : DLe x y) : Le (.d x) (.d y) := fun w ok β v hv => h w ok v hv
theorem DLe.refl (x : DV) : DLe x x := fun _ _ _ h => h
theorem DLe.of_eq {x y : DV} (h : x = y) : DLe x y := by subst h; exact DLe.refl x
theorem DLe.gen {k n : Nat} {el el' : Nat → Nat → DV} (h : ∀ i j, i < n → j < k → DLe (el i j) (el' i j)) : DLe (.gen k n el) (.gen k n el') := by
  intro w ok v hv
  exact SliceAt.mono hv (fun _ _ => rfl) (fun _ h => h) fun i j u hi hj hu => h i j hi hj _ _ _ hu
theorem DLe.ep {m : Nat} {f f' : Nat → DV} (h : ∀ j, j < m → DLe (f j) (f' j)) : DLe (.ep m f) (.ep m f') := by
  rintro w ok v ⟨ad, e, h2, h3⟩
  refine ⟨ad, e, h2, fun j hj => ?_⟩
  obtain ⟨u, hu, h5, h6⟩ := h3 j hj
  exact ⟨u, hu, h5, h j hj _ _ _ h6⟩
theorem Le.ep {m : Nat} {f f' : Nat → DV} (h : ∀ j, j < m → DLe (f j) (f' j)) : Le (.ep m f) (.ep m f') := fun w ok β v hv => DLe.ep h w ok v hv
theorem nil_sl {w : World} {ok : Nat → Prop} {k : Nat} {R : Nat → Nat → Value → Prop} : SliceAt w ok (.slice none 0 0) k 0 R := ⟨none, 0, rfl, Nat.le_refl _, fun h => absurd h (Nat.lt_irrefl 0)⟩
theorem DLe.nil_ints (k : IntKind) : DLe (.v (.slice none 0 0)) (.ints k []) := by rintro w ok v rfl; exact nil_sl
theorem DLe.nil_bools : DLe (.v (.slice none 0 0)) (.bools []) := by rintro w ok v rfl; exact nil_sl
theorem DLe.nil_strs : DLe (.v (.slice none 0 0)) (.strs []) := by rintro w ok v rfl; exact nil_sl
theorem DLe.nil_gen (k : Nat) (el : Nat → Nat → DV) : DLe (.v (.slice none 0 0)) (.gen k 0 el) := by rintro w ok v rfl; exact nil_sl
theorem DLe.ints_nil (k k' : IntKind) : DLe (.ints k []) (.ints k' []) := fun w ok v ⟨A, c, e, h, _⟩ => ⟨A, c, e, h, fun h => absurd h (Nat.lt_irrefl 0)⟩
theorem DLe.fn (i i' : Option Nat) (g n : Nat) (caps : Nat → DV) : DLe (.fn i g n caps) (.fn i' g n caps) := fun _ _ _ h => h
/-- the result, told otherwise -/
theorem Does.res {gl : GL} {g : FuncId} {args : List AV} {mm0 : MM} {post : MM → AV → Prop} (h : Does P0 gl g args mm0 fun mm r => ∃ r', Le r r' ∧ post mm r') : Does P0 gl g args mm0 post := by
  intro W β ok0 vs h1 h2 h3
  refine Calls.mono (h W β ok0 vs h1 h2 h3) fun e w' he => ?_
  cases e with
  | returned v => obtain ⟨mm', β', r, ⟨r', hr, hp⟩, h4, h5⟩ := he; exact ⟨mm', β', r', hp, h4, hr _ _ _ _ h5⟩
  | panicked _ => exact he.elim
  | outgrown => exact he.elim

/-- slices.IndexFunc of [][]int -/
theorem idx130 (n : Nat) (el : Nat → Nat → DV) (p : Nat → Bool) (hl : n ≤ 1000000) (g : FuncId) (caps : List AV) (C : List AV → (AV → Prop) → Prop) (hclo : Clo gl0 g caps C)
    (hp : ∀ i, i < n → ∀ K : AV → Prop, K (.d (.v (.bool (p i)))) → C (.d (el i 0) :: caps) K) (K : MM → AV → Prop) (hK : ∀ mm r, r = idxF p n → K mm (.d (.v (.int .i64 r)))) :
    Does P0 gl0 130 [.d (.gen 1 n el), .fn g caps] [] K := by
  have hc := hclo.caps
  refine does_mk (args := [.d (.gen 1 n el), .clo 0 g caps]) noEq_ok (SpsOk.nil gl0) Tryd.func130 (idxAn n p g C) (cloAn_ok hclo) [] ?_
  repeat' (first | refine And.intro ?_ ?_ | intro _ | (refine brK_id ?_; first | with_reducible refine brK_t ?_ | with_reducible refine brK_f ?_ | with_reducible refine brK_dec ?_ ?_ | with_reducible refine brK_ndec ?_ ?_ | refine brK_of ?_ ?_) | exact True.intro | refine Exists.intro (Nat.succ (by assumption)) ?_ | refine hK _ _ ?_ | refine hc _ _ ?_ | refine hp _ ?_ _ ?_)
  all_goals (try (refine ⟨?_⟩))
  all_goals (try with_reducible rfl)
  all_goals (try simp only [maxBytes, decide_eq_true_eq, decide_eq_false_iff_not, in64, Int.toNat_natCast] at *)
  all_goals (try omega)
  · exact ⟨Nat.zero_le _, fun j hj => absurd hj (Nat.not_lt_zero _)⟩
  · rename_i i h1 h3 h2
    exact (idxF_some p i h2 h1.2 _ (by omega)).symm
  · rename_i i h1 h3 h2
    refine ⟨⟨by omega, fun j hj => ?_⟩, by omega⟩
    by_cases e : j = i
    · subst e; exact h2
    · exact h1.2 j (by omega)
  · rename_i i h1 h2
    exact (idxF_none p _ fun j hj => h1.2 j (by omega)).symm
theorem cont122 (n : Nat) (el : Nat → Nat → DV) (p : Nat → Bool) (hl : n ≤ 1000000) (g : FuncId) (caps : List AV) (C : List AV → (AV → Prop) → Prop) (hclo : Clo gl0 g caps C)
    (hp : ∀ i, i < n → ∀ K : AV → Prop, K (.d (.v (.bool (p i)))) → C (.d (el i 0) :: caps) K) (K : MM → AV → Prop) (hK : ∀ mm r, r = anyF p n → K mm (.d (.v (.bool r)))) :
    Does P0 gl0 122 [.d (.gen 1 n el), .fn g caps] [] K := by
  have hc := hclo.caps
  have h130 : Meets P0 gl0 130 (.lend (idxL [.d (.gen 1 n el), .fn g caps] (idxF p n))) := by
    rintro args K ⟨⟨rfl⟩, h⟩
    exact idx130 n el p hl g caps C hclo hp _ fun mm r hr => ⟨trivial, h r hr⟩
  refine does_mk noEq_ok ((SpsOk.nil gl0).cons ⟨Tryd.f130, Tryd.func130, by decide, rfl⟩ h130) Tryd.func122 {} (fun i g s h => by cases h) [] ?_
  repeat' (first | refine And.intro ?_ ?_ | intro _ | (refine brK_id ?_; first | with_reducible refine brK_t ?_ | with_reducible refine brK_f ?_ | with_reducible refine brK_dec ?_ ?_ | with_reducible refine brK_ndec ?_ ?_ | refine brK_of ?_ ?_) | exact True.intro | refine hK _ _ ?_ | refine hc _ _ ?_)
  all_goals (try (refine ⟨?_⟩))
  all_goals (try with_reducible rfl)
  rename_i r hr
  rw [hr]
  exact idxF_any p _
/-- a closure of one value: what its contract must say -/
def isK (C : List AV → (AV → Prop) → Prop) (x : AV) (caps : List AV) (b : Bool) : Prop := ∀ K : AV → Prop, K (.d (.v (.bool b))) → C (x :: caps) K
/-- every[..]$1 -/
def ev1C (spg : Nat → Option SpecE) : List AV → (AV → Prop) → Prop
  | [.d x, .ep 1 f], K => match f 0 with
    | .fn none g n caps => match spg g with
      | some (.lend C) => ∃ b, isK C (.d x) (capL caps 0 n) b ∧ K (.d (.v (.bool (!b))))
      | _ => False
    | _ => False
  | _, _ => False
theorem capL_lend (caps : Nat → DV) (mm : MM) : ∀ (n j : Nat) (K : List AV → Prop), K (capL caps j n) → lendsK mm (capL caps j n) K
  | 0, _, K, h => h
  | n + 1, j, K, h => by
    show lendsK mm (capL caps (j + 1) n) fun l => K (.d (caps j) :: l)
    exact capL_lend caps mm n (j + 1) _ h
theorem ev124 {sps : List (Nat × SpecE)} (hs : SpsOk gl0 sps) : Meets P0 gl0 124 (.lend (ev1C (spOf sps))) := by
  intro args K h
  unfold ev1C at h
  split at h
  · rename_i x f
    split at h
    · rename_i g n caps hf
      split at h
      · rename_i C hC
        obtain ⟨b, hb, hK⟩ := h
        obtain ⟨f1, f2⟩ := hs g _ hC
        have hc := fun mm K => capL_lend caps mm n 0 K
        have hclo : Clo gl0 g (capL caps 0 n) C := ⟨f1, f2, hc⟩
        refine Does.conv (args' := [.d x, .ep 1 fun _ => .fn (some 0) g n caps]) ?_ ?_
        · refine Les.cons (Le.refl _) (Les.cons (Le.ep fun j hj => ?_) (Les.refl _))
          obtain rfl : j = 0 := by omega
          rw [hf]; exact DLe.fn _ _ _ _ _
        · have hK' : ∀ r, r = (!b) → K (.d (.v (.bool r))) := fun r hr => by rw [hr]; exact hK
          refine does_mk noEq_ok (SpsOk.nil gl0) Tryd.func124 { fs := cloAn g C } (cloAn_ok hclo) [] ?_
          repeat' (first | refine And.intro ?_ ?_ | intro _ | (refine brK_id ?_; first | with_reducible refine brK_t ?_ | with_reducible refine brK_f ?_ | with_reducible refine brK_dec ?_ ?_ | with_reducible refine brK_ndec ?_ ?_ | refine brK_of ?_ ?_) | exact True.intro | refine hK' _ ?_ | refine hc _ _ ?_ | refine hb _ ?_)
          all_goals (try (refine ⟨?_⟩))
          all_goals (try with_reducible rfl)
      · exact h.elim
    · exact h.elim
  · exact h.elim
theorem ev123 {sps : List (Nat × SpecE)} (hs : SpsOk gl0 sps) : Meets P0 gl0 123 (.lend (ev1C (spOf sps))) := by
  intro args K h
  unfold ev1C at h
  split at h
  · rename_i x f
    split at h
    · rename_i g n caps hf
      split at h
      · rename_i C hC
        obtain ⟨b, hb, hK⟩ := h
        obtain ⟨f1, f2⟩ := hs g _ hC
        have hc := fun mm K => capL_lend caps mm n 0 K
        have hclo : Clo gl0 g (capL caps 0 n) C := ⟨f1, f2, hc⟩
        refine Does.conv (args' := [.d x, .ep 1 fun _ => .fn (some 0) g n caps]) ?_ ?_
        · refine Les.cons (Le.refl _) (Les.cons (Le.ep fun j hj => ?_) (Les.refl _))
          obtain rfl : j = 0 := by omega
          rw [hf]; exact DLe.fn _ _ _ _ _
        · have hK' : ∀ r, r = (!b) → K (.d (.v (.bool r))) := fun r hr => by rw [hr]; exact hK
          refine does_mk noEq_ok (SpsOk.nil gl0) Tryd.func123 { fs := cloAn g C } (cloAn_ok hclo) [] ?_
          repeat' (first | refine And.intro ?_ ?_ | intro _ | (refine brK_id ?_; first | with_reducible refine brK_t ?_ | with_reducible refine brK_f ?_ | with_reducible refine brK_dec ?_ ?_ | with_reducible refine brK_ndec ?_ ?_ | refine brK_of ?_ ?_) | exact True.intro | refine hK' _ ?_ | refine hc _ _ ?_ | refine hb _ ?_)
          all_goals (try (refine ⟨?_⟩))
          all_goals (try with_reducible rfl)
      · exact h.elim
    · exact h.elim
  · exact h.elim
end Go.Proofs.YtgdcefohfebleaaDoor.V
