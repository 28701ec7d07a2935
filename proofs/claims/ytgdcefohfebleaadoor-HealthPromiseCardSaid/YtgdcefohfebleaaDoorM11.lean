/-
  Proved here, step by step for the theorem UW: matrix.Pick; erasure.Generator
  Conditions: those that stand in each theorem.
-/
import Derived.Test.YtgdcefohfebleaaDoorM10
/- matrix.Pick -/
set_option linter.unusedVariables false
set_option linter.unusedSimpArgs false
namespace Go.Proofs.YtgdcefohfebleaaDoor.V
open Go Go.Proofs

/-- the first i of the rows with these numbers -/
def pickN (c : Nat) (cell rs : List Int) : Nat → List Int
  | 0 => []
  | i + 1 => pickN c cell rs i ++ rowAt cell (rs.getD i 0).toNat c
def outB (n : Int) (rs : List Int) (i : Nat) : Bool := decide (rs.getD i 0 < 0) || decide (n ≤ rs.getD i 0)
def pickOk (a : Mat) (rs : List Int) : Bool := matOk a && (decide (rs.length ≤ 32) && !anyF (outB a.rows rs) rs.length)
def pickF (a : Mat) (rs : List Int) : Mat := if pickOk a rs = true then ⟨a.field, rs.length, a.cols, pickN a.cols.toNat a.cell rs rs.length⟩ else ⟨0, 0, 0, []⟩
def pickE (a : Mat) (rs : List Int) : Int := if pickOk a rs = true then 0 else 1
theorem pickN_len {c n : Nat} {cell rs : List Int} (hl : cell.length = n * c) : ∀ i, (∀ k, k < i → outB n rs k = false) → (pickN c cell rs i).length = i * c
  | 0, _ => by simp [pickN]
  | i + 1, h => by
    have h1 := h i (by omega)
    unfold outB at h1
    simp only [Bool.or_eq_false_iff, decide_eq_false_iff_not] at h1
    simp only [pickN, List.length_append]
    rw [pickN_len hl i (fun k hk => h k (by omega)), rowAt_len (by rw [hl]; exact rb3 (by omega)), Nat.add_mul, Nat.one_mul]
theorem anyF_true {p : Nat → Bool} {n i : Nat} (hi : i < n) (h : p i = true) : anyF p n = true := by
  unfold anyF; rw [List.any_eq_true]; exact ⟨i, List.mem_range.2 hi, h⟩
theorem anyF_false {p : Nat → Bool} {n : Nat} (h : ∀ i, i < n → p i = false) : anyF p n = false := by
  unfold anyF; rw [List.any_eq_false]; intro i hi; rw [h i (List.mem_range.1 hi)]; simp
theorem pick_big {a : Mat} {rs : List Int} (h : 32 < (rs.length : Int)) : pickOk a rs = false := by
  unfold pickOk; rw [decide_eq_false (show ¬ rs.length ≤ 32 by omega)]; simp
theorem pick_out {a : Mat} {rs : List Int} {i : Nat} (hi : i < rs.length) (h : rs.getD i 0 < 0 ∨ a.rows ≤ rs.getD i 0) : pickOk a rs = false := by
  have : anyF (outB a.rows rs) rs.length = true := anyF_true hi (by unfold outB; rw [Bool.or_eq_true, decide_eq_true_eq, decide_eq_true_eq]; exact h)
  unfold pickOk; rw [this]; simp
theorem pick_all {a : Mat} {rs : List Int} (hm : matOk a = true) (hl : rs.length ≤ 32) (h : ∀ k, k < rs.length → outB a.rows rs k = false) : pickOk a rs = true := by
  unfold pickOk; rw [hm, anyF_false h, decide_eq_true hl]; rfl
theorem absN {b : Bool} (h : ¬ b = true) (h' : (!b) = false) {p : Prop} : p := by cases b <;> simp_all
structure PI where
  i : Nat
def pickL (f : Int) (n c : Nat) (cell rs : List Int) : LAnn := { ι := PI, nils := [], bnils := [(6, 3, 45, 3, .ints .i64 [])], vars := fun x => [(27, .d (.v (.int .i64 (x.i : Int))))], mem := fun x => [(6, .box [.d (.v (.int .i64 f)), .d (.v (.int .i64 (rs.length : Int))), .d (.v (.int .i64 (c : Int))), .own 45 (pickN c cell rs x.i).length]), (45, .row 3 (.ints .i64 (pickN c cell rs x.i)))], inv := fun x => x.i ≤ rs.length ∧ ∀ k, k < x.i → outB n rs k = false, init := ⟨0⟩, meas := fun x => rs.length - x.i }
def planPick : Plan := .take 0 (.take 1 (.take 3 (.alt 2 (.alt 4 (.alt 5 (.take 6 (.alt 7 (.done) (.done))) (.done)) (.done)) (.done))))
def pickC : List AV → (AV → Prop) → Prop
  | [.agg [.d (.v (.int .i64 f)), .d (.v (.int .i64 r)), .d (.v (.int .i64 c)), .d (.ints .i64 l)], .d (.ints .i64 rs)], K => K (.tup [matAV (pickF ⟨f, r, c, l⟩ rs), .d (.v (.int .i64 (pickE ⟨f, r, c, l⟩ rs)))])
  | _, _ => False
theorem pickN_zero (c : Nat) (l rs : List Int) : pickN c l rs 0 = [] := rfl
attribute [local irreducible] pickN
set_option maxRecDepth 20000 in
theorem pick_ok : Meets P0 gl0 73 (.data fun args K => pickC args fun r => K [] r) := Meets.data fun args K h => by
  unfold pickC at h
  split at h
  · rename_i f r c l rs
    have hbad : pickOk ⟨f, r, c, l⟩ rs = false → ∃ r', Le (.tup [.agg [.d (.v (.int .i64 0)), .d (.v (.int .i64 0)), .d (.v (.int .i64 0)), .d (.v (.slice none 0 0))], .d (.v (.int .i64 1))]) r' ∧ K r' := fun hf => ⟨_, Le.tup (Les.cons matNil (Les.refl _)), by unfold pickF pickE at h; rw [hf] at h; exact h⟩
    have hgood : ∀ x y z w, pickOk ⟨f, r, c, l⟩ rs = true → x = f → y = (rs.length : Int) → z = c → w = pickN c.toNat l rs rs.length → ∃ r', Le (.tup [.agg [.d (.v (.int .i64 x)), .d (.v (.int .i64 y)), .d (.v (.int .i64 z)), .d (.ints .i64 w)], .d (.v (.int .i64 0))]) r' ∧ K r' := fun x y z w hf e1 e2 e3 e4 => ⟨_, Le.refl _, by subst e1 e2 e3 e4; unfold pickF pickE at h; rw [hf] at h; exact h⟩
    by_cases hok : matOk ⟨f, r, c, l⟩ = true
    · obtain ⟨hf, hr0, hr1, hc0, hc1, hlen, _⟩ := matOk_le hok
      simp only at hf hr0 hr1 hc0 hc1 hlen
      obtain ⟨R, rfl⟩ := Int.eq_ofNat_of_zero_le hr0
      obtain ⟨C, rfl⟩ := Int.eq_ofNat_of_zero_le hc0
      have hlen2 : l.length = R * C := by rw [← Int.natCast_mul] at hlen; omega
      refine does_mk noEq_ok spsM3_ok Tryd.func73 { plan := fun k => bif Nat.beq k 9 then some planPick else none } (fun i g s h => by cases h) [45] ?_
      repeat' (first | refine And.intro ?_ ?_ | intro _ | (refine brK_id ?_; first | with_reducible refine brK_t ?_ | with_reducible refine brK_f ?_ | with_reducible refine brK_dec ?_ ?_ | with_reducible refine brK_ndec ?_ ?_ | refine brK_of ?_ ?_) | exact True.intro | refine hbad ?_ | refine hgood _ _ _ _ ?_ ?_ ?_ ?_ ?_ | refine ExL.intro (id := 5) (pickL f R C l rs) ?_ | refine Exists.intro (PI.mk ((by assumption : PI).i + 1)) ?_ | fail)
      all_goals (try (refine ⟨?_⟩))
      all_goals (try with_reducible rfl)
      all_goals (try (exact ⟨by kernel_rfl, by kernel_rfl⟩))
      all_goals (try (exact ⟨rfl, rfl, by decide⟩))
      all_goals (try (exact ⟨Nat.zero_le _, fun k hk => absurd hk (Nat.not_lt_zero _)⟩))
      all_goals (try (simp only [pickN]; done))
      all_goals (try (have hpl := pickN_len (c := C) (n := R) hlen2 (by assumption : PI).i (by assumption : _ ∧ _).2))
      all_goals (try simp only [Int.toNat_natCast, DV.len, maxBytes] at *)
      all_goals (try omega)
      all_goals (try (unfold in64; omega))
      all_goals (try (unfold pickOk; simp_all; done))
      all_goals (try (simp only [pickN]; done))
      all_goals (try (exact pick_big (by omega)))
      all_goals (try (rw [pickN_zero]; rfl))
      all_goals (try (exact pick_out (show (by assumption : PI).i < rs.length by omega) (.inl (by assumption))))
      all_goals (try (exact pick_out (show (by assumption : PI).i < rs.length by omega) (.inr (by assumption))))
      all_goals (try (have hri : ((rs.getD (by assumption : PI).i 0).toNat : Int) = rs.getD (by assumption : PI).i 0 := by omega))
      all_goals (try (have hrn : (rs.getD (by assumption : PI).i 0).toNat < R := by omega))
      all_goals (try (exact ⟨by omega, by omega, by omega, by omega, by rw [hlen2, ← hri]; exact rb hrn⟩))
      all_goals (try (have h1 := rowAt_len (l := l) (i := (rs.getD (by assumption : PI).i 0).toNat) (c := C) (by rw [hlen2]; exact rb3 hrn)))
      all_goals (try (have h2 := rb3 (i := (by assumption : PI).i) (n := 32) (c := C) (by omega)))
      all_goals (try (rw [h1, hpl]; omega))
      all_goals (try (have h3 := (by assumption : _ ∧ _).2))
      all_goals (try (refine ⟨⟨by omega, fun k hk => ?_⟩, by omega⟩))
      · by_cases e : k = (by assumption : PI).i
        · rw [e]; unfold outB; rw [Bool.or_eq_false_iff]; exact ⟨decide_eq_false (by assumption), decide_eq_false (by assumption)⟩
        · exact h3 k (by omega)
      · exact pick_all hok (by omega) (fun k hk => h3 k (by omega))
      · have hi : (by assumption : PI).i = rs.length := by omega
        rw [hi]
    · refine does_mk noEq_ok spsM3_ok Tryd.func73 { plan := fun k => bif Nat.beq k 9 then some planPick else none } (fun i g s h => by cases h) [45] ?_
      repeat' (first | exact absN hok (by assumption) | refine And.intro ?_ ?_ | intro _ | (refine brK_id ?_; first | with_reducible refine brK_t ?_ | with_reducible refine brK_f ?_ | with_reducible refine brK_dec ?_ ?_ | with_reducible refine brK_ndec ?_ ?_ | refine brK_of ?_ ?_) | exact True.intro | refine hbad ?_ | fail)
      all_goals (try (refine ⟨?_⟩))
      all_goals (try with_reducible rfl)
      all_goals (unfold pickOk; simp_all)
  · exact h.elim
end Go.Proofs.YtgdcefohfebleaaDoor.V
/- erasure.Generator -/
set_option linter.unusedVariables false
set_option linter.unusedSimpArgs false
namespace Go.Proofs.YtgdcefohfebleaaDoor.V
open Go Go.Proofs

/-- the first i ones of a square of d rows -/
def idN (d : Nat) : Nat → List Int
  | 0 => List.replicate (d * d) 0
  | i + 1 => (idN d i).set (i * d + i) 1
theorem idN_len (d : Nat) : ∀ i, (idN d i).length = d * d
  | 0 => by simp [idN]
  | i + 1 => by simp only [idN, List.length_set, idN_len d i]
def genF (c : Cod) : Mat := if erOk c = true then ⟨c.field, widthF c, c.data, idN c.data.toNat c.data.toNat ++ c.parity.flatten⟩ else ⟨0, 0, 0, []⟩
def genE (c : Cod) : Int := if erOk c = true then 0 else 1
theorem flat_len {d : Nat} : ∀ {p : List (List Int)}, (∀ r, r ∈ p → r.length = d) → p.flatten.length = p.length * d
  | [], _ => by simp
  | r :: p, h => by
    simp only [List.flatten_cons, List.length_append, List.length_cons]
    rw [h r List.mem_cons_self, flat_len (fun x hx => h x (List.mem_cons_of_mem _ hx)), Nat.add_mul]; omega
theorem getD_mem {p : List (List Int)} {r : List Int} (h : r ∈ p) : ∃ i, i < p.length ∧ p.getD i [] = r := by
  obtain ⟨i, hi, e⟩ := List.mem_iff_getElem.1 h
  exact ⟨i, hi, by rw [List.getD_eq_getElem?_getD, List.getElem?_eq_getElem hi, e]; rfl⟩
theorem par_len {c : Cod} (h : erOk c = true) : c.parity.flatten.length = c.parity.length * c.data.toNat := by
  obtain ⟨_, _, _, h4⟩ := erOk_le h
  refine flat_len fun r hr => ?_
  obtain ⟨i, hi, rfl⟩ := getD_mem hr
  have := h4 i hi
  unfold rowOkF at this
  simp only [Bool.and_eq_true, decide_eq_true_eq] at this
  omega
theorem toNat_add2 (a b : Nat) : ((a : Int) + (b : Int)).toNat = a + b := by omega
structure GI where
  i : Nat
def genL (d : Nat) : LAnn := { ι := GI, nils := [], vars := fun x => [(25, .d (.v (.int .i64 (x.i : Int))))], mem := fun x => [(21, .row 3 (.ints .i64 (idN d x.i)))], inv := fun x => x.i ≤ d, init := ⟨0⟩, meas := fun x => d - x.i }
def planGen3 : Plan := .take 0 (.take 1 (.take 2 (.take 4 (.take 5 (.take 6 (.take 7 (.take 8 (.take 9 (.take 10 (.alt 3 (.alt 11 (.take 12 (.alt 13 (.alt 14 (.done) (.done)) (.done))) (.alt 13 (.alt 11 (.take 12 (.alt 14 (.done) (.done))) (.done)) (.done))) (.alt 11 (.alt 3 (.take 12 (.alt 13 (.alt 14 (.done) (.done)) (.done))) (.alt 13 (.alt 3 (.take 12 (.alt 14 (.done) (.done))) (.done)) (.done))) (.alt 13 (.alt 3 (.alt 11 (.take 12 (.alt 14 (.done) (.done))) (.done)) (.alt 11 (.alt 3 (.take 12 (.alt 14 (.done) (.done))) (.done)) (.done))) (.done)))))))))))))
def planGen9 : Plan := .take 0 (.take 1 (.take 2 (.alt 3 (.alt 4 (.alt 5 (.take 6 (.alt 7 (.done) (.done))) (.done)) (.done)) (.done))))
def genC : List AV → (AV → Prop) → Prop
  | [a], K => codK a fun c => K (.tup [matAV (genF c), .d (.v (.int .i64 (genE c)))])
  | _, _ => False
def spsG1 : List (Nat × SpecE) := (92, .data concatC) :: (60, .lend widthC) :: (88, .lend erValidC) :: spsE4
theorem spsG1_ok : SpsOk gl0 spsG1 := ((spsE4_ok.cons ⟨Tryd.f88, Tryd.func88, by decide, rfl⟩ erValid_ok).cons ⟨Tryd.f60, Tryd.func60, by decide, rfl⟩ width_ok).cons ⟨Tryd.f92, Tryd.func92, by decide, rfl⟩ concat_ok
theorem idN_zero (d : Nat) : idN d 0 = List.replicate (d * d) 0 := rfl
attribute [local irreducible] idN
set_option maxRecDepth 20000 in
set_option maxHeartbeats 1000000 in
theorem gen_ok : Meets P0 gl0 72 (.data fun args K => genC args fun r => K [] r) := Meets.data fun args K h => by
  unfold genC at h
  split at h
  · obtain ⟨⟨nm, f, d, p, dm⟩, h, hle⟩ := codK_ok h
    refine Does.conv (args' := [codAV ⟨nm, f, d, p, dm⟩]) (Les.cons hle (Les.refl _)) ?_
    have hbad : erOk ⟨nm, f, d, p, dm⟩ = false → ∃ r', Le (.tup [.agg [.d (.v (.int .i64 0)), .d (.v (.int .i64 0)), .d (.v (.int .i64 0)), .d (.v (.slice none 0 0))], .d (.v (.int .i64 1))]) r' ∧ K r' := fun hf => ⟨_, Le.tup (Les.cons matNil (Les.refl _)), by unfold genF genE at h; rw [hf] at h; exact h⟩
    have hgood : ∀ x y z w, erOk ⟨nm, f, d, p, dm⟩ = true → x = f → y = widthF ⟨nm, f, d, p, dm⟩ → z = d → w = idN d.toNat d.toNat ++ p.flatten → ∃ r', Le (.tup [.agg [.d (.v (.int .i64 x)), .d (.v (.int .i64 y)), .d (.v (.int .i64 z)), .d (.ints .i64 w)], .d (.v (.int .i64 0))]) r' ∧ K r' := fun x y z w hf e1 e2 e3 e4 => ⟨_, Le.refl _, by subst e1 e2 e3 e4; unfold genF genE at h; rw [hf] at h; exact h⟩
    by_cases hok : erOk ⟨nm, f, d, p, dm⟩ = true
    · have hpl := par_len hok
      obtain ⟨hf, hd1, hdp, _⟩ := erOk_le hok
      simp only at hf hd1 hdp hpl
      obtain ⟨D, rfl⟩ := Int.eq_ofNat_of_zero_le (show 0 ≤ d by omega)
      refine does_mk noEq_ok spsG1_ok Tryd.func72 { plan := fun k => bif Nat.beq k 3 then some planGen3 else bif Nat.beq k 9 then some planGen9 else none } (fun i g s h => by cases h) [21] ?_
      repeat' (first | refine And.intro ?_ ?_ | intro _ | (refine brK_id ?_; first | with_reducible refine brK_t ?_ | with_reducible refine brK_f ?_ | with_reducible refine brK_dec ?_ ?_ | with_reducible refine brK_ndec ?_ ?_ | refine brK_of ?_ ?_) | exact True.intro | refine hbad ?_ | refine hgood _ _ _ _ ?_ ?_ ?_ ?_ ?_ | refine ExL.intro (id := 5) (genL D) ?_ | refine Exists.intro (GI.mk ((by assumption : GI).i + 1)) ?_ | refine Exists.intro (α := List (List Int)) p ?_ | fail)
      all_goals (try (refine ⟨?_⟩))
      all_goals (try with_reducible rfl)
      all_goals (try (exact ⟨by kernel_rfl, by kernel_rfl⟩))
      all_goals (try (exact Rows.self _))
      all_goals (have hDD : ((D : Int) * (D : Int)) = ((D * D : Nat) : Int) := by rw [Int.natCast_mul])
      all_goals (have hDb : D * D ≤ 1024 := by have := Nat.mul_le_mul (show D ≤ 32 by omega) (show D ≤ 32 by omega); omega)
      all_goals (have hpb : p.length * D ≤ 1024 := by have := Nat.mul_le_mul (show p.length ≤ 32 by omega) (show D ≤ 32 by omega); omega)
      all_goals (try (have hiD : ((by assumption : GI).i : Int) * (D : Int) + ((by assumption : GI).i : Int) = (((by assumption : GI).i * D + (by assumption : GI).i : Nat) : Int) := by rw [Int.natCast_add, Int.natCast_mul]))
      all_goals (try (have hiD2 : ((by assumption : GI).i : Int) * (D : Int) = (((by assumption : GI).i * D : Nat) : Int) := by rw [Int.natCast_mul]))
      all_goals (try (have hil := idN_len D (by assumption : GI).i))
      all_goals (try simp only [Int.toNat_natCast, DV.len, maxBytes] at *)
      all_goals (try rw [hDD])
      all_goals (try rw [hiD2])
      all_goals (try simp only [Int.toNat_natCast, toNat_add2])
      all_goals (try (have hi2 := rb2 (i := (by assumption : GI).i) (n := D) (c := D) (j := (by assumption : GI).i) (by omega) (by omega)))
      all_goals (try omega)
      all_goals (try (unfold in64; omega))
      all_goals (try (rw [idN_zero]; done))
      all_goals (try (exact absN (by simpa using hok) (by assumption)))
      all_goals (try (exact hok))
      all_goals (try (exact absurd hok (by have := ‹(!erOk _) = true›; simpa using this)))
      all_goals (try (exact ⟨Rows.self _, by omega, by omega⟩))
      all_goals (try (rw [hDD, Int.toNat_natCast, idN_zero]; done))
      all_goals (try (simp only [idN]; done))
      all_goals (try (have hr : (by assumption : List Int) = p.flatten := by assumption))
      all_goals (try (rw [hr, hil, hpl]; omega))
      all_goals (try (have hi : (by assumption : GI).i = D := by omega))
      all_goals (try (rw [hr, hi]; done))
    · refine does_mk noEq_ok spsG1_ok Tryd.func72 {} (fun i g s h => by cases h) [21] ?_
      repeat' (first | exact absN hok (by assumption) | refine And.intro ?_ ?_ | intro _ | (refine brK_id ?_; first | with_reducible refine brK_t ?_ | with_reducible refine brK_f ?_ | with_reducible refine brK_dec ?_ ?_ | with_reducible refine brK_ndec ?_ ?_ | refine brK_of ?_ ?_) | exact True.intro | refine hbad ?_ | refine Exists.intro (α := List (List Int)) p ?_ | fail)
      all_goals (try (refine ⟨?_⟩))
      all_goals (try with_reducible rfl)
      all_goals (try (exact Rows.self _))
      all_goals (first | exact Bool.eq_false_iff.2 hok | rfl)
  · exact h.elim
end Go.Proofs.YtgdcefohfebleaaDoor.V
