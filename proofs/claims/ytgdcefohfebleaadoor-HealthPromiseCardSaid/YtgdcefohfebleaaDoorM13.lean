/-
  Proved here, step by step for the theorem UW: matrix.reduce and Independent: what calls of them do; erasure.Basis, Decodable; codelang.Check; distance.present, valid; slices.Clone of ints and bools; slices.Clone of bools, ints; health.Worst; health.Full$1; the laws' par and at
  Conditions: those that stand in each theorem.
-/
import Derived.Test.YtgdcefohfebleaaDoorM11
import Derived.Test.YtgdcefohfebleaaDoorM12
/- matrix.reduce and Independent: what calls of them do -/
set_option linter.unusedVariables false
set_option linter.unusedSimpArgs false
namespace Go.Proofs.YtgdcefohfebleaaDoor.V
open Go Go.Proofs

def reduceC : List AV → MM → (MM → AV → Prop) → Prop
  | [.agg [.d (.v (.int .i64 m)), .d (.v (.int .i64 n)), .d (.v (.int .i64 c)), .own b len], .d (.v (.int .i64 w))], [(b', .row e (.ints .i64 l))], K =>
    bif Nat.beq b 1048576 && (Nat.beq b' 1048576 && Nat.beq e 3) then Ob (0 ≤ n ∧ n ≤ 32 ∧ 0 ≤ c ∧ c ≤ 32 ∧ 0 ≤ w ∧ w ≤ c ∧ l.length = n.toNat * c.toNat ∧ len = l.length ∧ In16 l) ∧
      ∀ l' ps k, l' = (redS m n.toNat c.toNat l w.toNat).1 → ps = (redS m n.toNat c.toNat l w.toNat).2 → k = ps.length → K [(1048576, .row 3 (.ints .i64 l')), (0, .row 3 (.ints .i64 ps))] (.own 0 k) else False
  | _, _, _ => False
theorem reduce_ok : Meets P0 gl0 96 (.heap reduceC) := by
  intro args mm0 K h
  unfold reduceC at h
  split at h
  · rename_i m n c b len w b' e l
    obtain ⟨hb, h⟩ := bif_ok h
    simp only [Bool.and_eq_true] at hb
    obtain ⟨e1, e2, e3⟩ := hb
    obtain rfl := Nat.eq_of_beq_eq_true e1
    obtain rfl := Nat.eq_of_beq_eq_true e2
    obtain rfl := Nat.eq_of_beq_eq_true e3
    clear e1 e2 e3
    obtain ⟨⟨hn0, hn, hc0, hc, hw0, hw, hl, hlen, hi⟩, h2⟩ := h
    obtain ⟨n, rfl⟩ := Int.eq_ofNat_of_zero_le hn0
    obtain ⟨c, rfl⟩ := Int.eq_ofNat_of_zero_le hc0
    obtain ⟨w, rfl⟩ := Int.eq_ofNat_of_zero_le hw0
    simp only [Int.toNat_natCast] at hl h2
    obtain rfl : len = n * c := by omega
    exact does_mk noEq_ok spsM4_ok Tryd.func96 redMAn (fun i g s h => by cases h) [4] (reduce_vc m n c w l (by omega) (by omega) (by omega) hl hi K h2)
  · exact h.elim
/-! ### elements -/
theorem mat_in {a : Mat} (h : matOk a = true) : In16 a.cell := fun i => by
  obtain ⟨hf, _, _, _, _, _, ha⟩ := matOk_le h
  by_cases hi : i < a.cell.length
  · unfold anyF at ha
    rw [List.any_eq_false] at ha
    have h1 := ha i (List.mem_range.2 hi)
    unfold badM at h1
    simp only [Bool.not_eq_true, Bool.or_eq_false_iff, decide_eq_false_iff_not] at h1
    rcases hf with e | e
    · rw [e] at h1
      have : (2 : Int) ^ (8 : Int).toNat = 256 := rfl
      omega
    · rw [e] at h1
      have : (2 : Int) ^ (16 : Int).toNat = 65536 := rfl
      omega
  · rw [List.getD_eq_getElem?_getD, List.getElem?_eq_none (by omega)]
    exact ⟨Int.le_refl 0, by show (0 : Int) < 65536; omega⟩
theorem rowAt_in {l : List Int} (h : In16 l) (i c : Nat) : In16 (rowAt l i c) := fun j => by
  unfold rowAt
  rw [List.getD_eq_getElem?_getD, List.getElem?_drop]
  by_cases hj : i * c + j < i * c + c
  · rw [List.getElem?_take_of_lt hj, ← List.getD_eq_getElem?_getD]; exact h _
  · rw [List.getElem?_eq_none (by rw [List.length_take]; omega)]
    exact ⟨Int.le_refl 0, by show (0 : Int) < 65536; omega⟩
theorem trI_in {r : Nat} {row : List Int} {i : Nat} (hr : In16 row) : ∀ k {l}, In16 l → In16 (trI r row i k l)
  | 0, l, h => h
  | k + 1, l, h => (trI_in hr k h).set _ (hr k)
theorem trO_in {r c : Nat} {cell : List Int} (hc : In16 cell) : ∀ i {l}, In16 l → In16 (trO r c cell i l)
  | 0, l, h => h
  | i + 1, l, h => trI_in (rowAt_in hc i c) c (trO_in hc i h)
theorem rep_in (n : Nat) : In16 (List.replicate n 0) := fun i => by
  rw [List.getD_eq_getElem?_getD, List.getElem?_replicate]
  split <;> exact ⟨Int.le_refl 0, by show (0 : Int) < 65536; omega⟩
theorem trF_in {a : Mat} (h : matOk a = true) : In16 (trF a).cell ∧ (trF a).cell.length = a.cols.toNat * a.rows.toNat := by
  unfold trF
  rw [if_pos h]
  obtain ⟨_, hr0, _, hc0, _⟩ := matOk_le h
  exact ⟨trO_in (mat_in h) _ (rep_in _), by show (trO _ _ _ _ _).length = _; rw [trO_len, List.length_replicate, toNat_mul hc0 hr0]⟩
/-- matrix.Independent -/
def indF (a : Mat) : List Int := if matOk a = true then (redS a.field a.cols.toNat a.rows.toNat (trF a).cell a.rows.toNat).2 else []
def indC : List AV → (AV → Prop) → Prop
  | [.agg [.d (.v (.int .i64 f)), .d (.v (.int .i64 r)), .d (.v (.int .i64 c)), .d (.ints .i64 l)]], K => K (.d (.ints .i64 (indF ⟨f, r, c, l⟩)))
  | _, _ => False
def spsI1 : List (Nat × SpecE) := (96, .heap reduceC) :: (95, .data trC) :: spsM4
theorem spsI1_ok : SpsOk gl0 spsI1 := (spsM4_ok.cons ⟨Tryd.f95, Tryd.func95, by decide, rfl⟩ tr_ok).cons ⟨Tryd.f96, Tryd.func96, by decide, rfl⟩ reduce_ok
set_option maxRecDepth 20000 in
theorem ind_ok : Meets P0 gl0 74 (.data fun args K => indC args fun r => K [] r) := Meets.data fun args K h => by
  unfold indC at h
  split at h
  · rename_i f r c l
    have hbad : matOk ⟨f, r, c, l⟩ = false → ∃ r', Le (.d (.v (.slice none 0 0))) r' ∧ K r' := fun hf => ⟨_, (DLe.nil_ints .i64).le, by unfold indF at h; rw [hf] at h; exact h⟩
    have hgood : ∀ w, matOk ⟨f, r, c, l⟩ = true → w = (redS f c.toNat r.toNat (trF ⟨f, r, c, l⟩).cell r.toNat).2 → ∃ r', Le (.d (.ints .i64 w)) r' ∧ K r' := fun w hf e => ⟨_, Le.refl _, by subst e; unfold indF at h; rw [hf] at h; exact h⟩
    refine does_mk noEq_ok spsI1_ok Tryd.func74 {} (fun i g s h => by cases h) [15] ?_
    repeat' (first | exact absurd rfl (by assumption : ¬ (0 : Int) = 0) | exact absurd (by assumption : (1 : Int) = 0) (by decide) | refine And.intro ?_ ?_ | intro _ | (refine brK_id ?_; first | with_reducible refine brK_t ?_ | with_reducible refine brK_f ?_ | with_reducible refine brK_dec ?_ ?_ | with_reducible refine brK_ndec ?_ ?_ | refine brK_of ?_ ?_) | exact True.intro | refine hbad ?_ | refine hgood _ ?_ ?_ | fail)
    all_goals (try (refine ⟨?_⟩))
    all_goals (try with_reducible rfl)
    all_goals (try assumption)
    · obtain ⟨_, hr0, hr1, hc0, hc1, _⟩ := matOk_le (by assumption : matOk ⟨f, r, c, l⟩ = true)
      obtain ⟨hi, hl⟩ := trF_in (by assumption : matOk ⟨f, r, c, l⟩ = true)
      subst_vars
      exact ⟨hc0, hc1, hr0, hr1, hr0, Int.le_refl _, hl, rfl, hi⟩
    · subst_vars; rfl
  · exact h.elim
end Go.Proofs.YtgdcefohfebleaaDoor.V
/- erasure.Basis, Decodable -/
set_option linter.unusedVariables false
set_option linter.unusedSimpArgs false
namespace Go.Proofs.YtgdcefohfebleaaDoor.V
open Go Go.Proofs

theorem colN_piv {m : Int} {n c j : Nat} {s : List Int × List Int} (h : ∀ x ∈ s.2, 0 ≤ x ∧ x < (j : Int)) : ∀ x ∈ (colN m n c j s).2, 0 ≤ x ∧ x < (j : Int) + 1 := by
  unfold colN
  split
  · intro x hx; have := h x hx; omega
  · intro x hx
    rcases List.mem_append.1 hx with hx | hx
    · have := h x hx; omega
    · rw [List.mem_singleton.1 hx]; omega
theorem colsN_piv {m : Int} {n c : Nat} {l : List Int} : ∀ k, ∀ x ∈ (colsN m n c k (l, [])).2, 0 ≤ x ∧ x < (k : Int)
  | 0, x, hx => by cases hx
  | k + 1, x, hx => by
    have := colN_piv (m := m) (n := n) (c := c) (colsN_piv (m := m) (n := n) (c := c) (l := l) k) x hx
    omega
theorem ind_piv {a : Mat} : ∀ x ∈ indF a, 0 ≤ x ∧ x < a.rows := fun x hx => by
  unfold indF at hx
  split at hx
  · rename_i h
    obtain ⟨_, hr0, _⟩ := matOk_le h
    have := colsN_piv a.rows.toNat x hx
    omega
  · cases hx
/-- the numbers below i of those that are there -/
def presN (have_ : List Bool) : Nat → List Int
  | 0 => []
  | i + 1 => presN have_ i ++ (if have_.getD i false = true then [(i : Int)] else [])
theorem presN_len (h : List Bool) : ∀ i, (presN h i).length ≤ i
  | 0 => Nat.le_refl _
  | i + 1 => by
    simp only [presN, List.length_append]
    have := presN_len h i
    split <;> simp <;> omega
/-- the first i of the elements of l at these places -/
def outN (l at_ : List Int) : Nat → List Int
  | 0 => []
  | i + 1 => outN l at_ i ++ [l.getD (at_.getD i 0).toNat 0]
theorem outN_len (l at_ : List Int) : ∀ i, (outN l at_ i).length = i
  | 0 => rfl
  | i + 1 => by simp only [outN, List.length_append, outN_len l at_ i]; rfl
def basOk (c : Cod) (h : List Bool) : Bool := decide (genE c = 0) && decide ((h.length : Int) = (genF c).rows)
def basF (c : Cod) (h : List Bool) : List Int :=
  if basOk c h = true then
    (if (presN h h.length).length = 0 then [] else outN (presN h h.length) (indF (pickF (genF c) (presN h h.length))) (indF (pickF (genF c) (presN h h.length))).length)
  else []
def basE (c : Cod) (h : List Bool) : Int := if basOk c h = true then 0 else 1
structure BI where
  i : Nat
structure BO where
  o : Nat
def basL6 (h : List Bool) : LAnn := { ι := BI, nils := [(8, 8, 3, .ints .i64 [])], vars := fun x => [(32, .d (.v (.int .i64 (x.i : Int)))), (8, .own 8 (presN h x.i).length)], mem := fun x => [(8, .row 3 (.ints .i64 (presN h x.i)))], inv := fun x => x.i ≤ h.length, init := ⟨0⟩, meas := fun x => h.length - x.i }
def basL16 (l at_ : List Int) : LAnn := { ι := BO, nils := [(13, 13, 3, .ints .i64 [])], vars := fun x => [(55, .d (.v (.int .i64 (x.o : Int)))), (13, .own 13 (outN l at_ x.o).length)], mem := fun x => [(13, .row 3 (.ints .i64 (outN l at_ x.o)))], inv := fun x => x.o ≤ at_.length, init := ⟨0⟩, meas := fun x => at_.length - x.o }
theorem gen_rows (c : Cod) : 0 ≤ (genF c).rows ∧ (genF c).rows ≤ 32 := by
  unfold genF
  split
  · rename_i h
    obtain ⟨_, h1, h2, _⟩ := erOk_le h
    show 0 ≤ widthF c ∧ widthF c ≤ 32
    unfold widthF
    rw [if_pos h]; omega
  · exact ⟨Int.le_refl 0, by show (0 : Int) ≤ 32; omega⟩
theorem pick_rows (a : Mat) (rs : List Int) : (pickF a rs).rows ≤ rs.length := by
  unfold pickF
  split
  · exact Int.le_refl _
  · show (0 : Int) ≤ _; omega
theorem ind_len (a : Mat) : (indF a).length ≤ 32 := by
  unfold indF
  split
  · rename_i h
    obtain ⟨_, _, _, hc0, hc1, _⟩ := matOk_le h
    have := (redS_ok (m := a.field) (n := a.cols.toNat) (c := a.rows.toNat) (trF_in h).2 (trF_in h).1 a.rows.toNat).2.2
    omega
  · exact Nat.zero_le _
theorem presN_t {h : List Bool} {i : Nat} (hi : h.getD i false = true) : presN h (i + 1) = presN h i ++ [(i : Int)] := by simp only [presN]; rw [if_pos hi]
theorem presN_f {h : List Bool} {i : Nat} (hi : h.getD i false = false) : presN h (i + 1) = presN h i := by simp only [presN]; rw [if_neg (by rw [hi]; simp)]; simp
theorem presN_zero (h : List Bool) : presN h 0 = [] := rfl
theorem outN_zero (l a : List Int) : outN l a 0 = [] := rfl
theorem outN_succ (l a : List Int) (i : Nat) : outN l a (i + 1) = outN l a i ++ [l.getD (a.getD i 0).toNat 0] := rfl
theorem bas_no {c : Cod} {h : List Bool} (hb : genE c ≠ 0 ∨ (h.length : Int) ≠ (genF c).rows) : basF c h = [] ∧ 1 = basE c h := by
  have : basOk c h = false := by unfold basOk; rcases hb with hb | hb <;> simp [hb]
  unfold basF basE; rw [this]; exact ⟨rfl, rfl⟩
theorem bas_yes {c : Cod} {h : List Bool} (h1 : genE c = 0) (h2 : (h.length : Int) = (genF c).rows) : 0 = basE c h ∧ basF c h = if (presN h h.length).length = 0 then [] else outN (presN h h.length) (indF (pickF (genF c) (presN h h.length))) (indF (pickF (genF c) (presN h h.length))).length := by
  have : basOk c h = true := by unfold basOk; simp [h1, h2]
  unfold basF basE; rw [this]; exact ⟨rfl, rfl⟩
theorem piv_in {c : Cod} {l : List Int} {i : Nat} (hi : i < (indF (pickF (genF c) l)).length) : 0 ≤ (indF (pickF (genF c) l)).getD i 0 ∧ (indF (pickF (genF c) l)).getD i 0 < l.length := by
  rw [List.getD_eq_getElem?_getD, List.getElem?_eq_getElem hi]
  have h1 := ind_piv _ (List.getElem_mem hi)
  have h2 := pick_rows (genF c) l
  exact ⟨h1.1, by show (indF (pickF (genF c) l))[i] < _; omega⟩
def basC : List AV → (AV → Prop) → Prop
  | [a, .d (.bools h)], K => codK a fun c => K (.tup [.d (.ints .i64 (basF c h)), .d (.v (.int .i64 (basE c h)))])
  | _, _ => False
def spsB1 : List (Nat × SpecE) := (74, .data fun args K => indC args fun r => K [] r) :: (73, .data fun args K => pickC args fun r => K [] r) :: (72, .data fun args K => genC args fun r => K [] r) :: spsG1
theorem spsB1_ok : SpsOk gl0 spsB1 := ((spsG1_ok.cons ⟨Tryd.f72, Tryd.func72, by decide, rfl⟩ gen_ok).cons ⟨Tryd.f73, Tryd.func73, by decide, rfl⟩ pick_ok).cons ⟨Tryd.f74, Tryd.func74, by decide, rfl⟩ ind_ok
attribute [local irreducible] presN outN indF pickF genF genE pickE
set_option maxRecDepth 20000 in
set_option maxHeartbeats 1000000 in
theorem bas_ok : Meets P0 gl0 43 (.data fun args K => basC args fun r => K [] r) := Meets.data fun args K h0 => by
  unfold basC at h0
  split at h0
  · rename_i a h
    obtain ⟨c, h1, hle⟩ := codK_ok h0
    refine Does.conv (args' := [codAV c, .d (.bools h)]) (Les.cons hle (Les.refl _)) ?_
    have hK : ∀ l e, l = basF c h → e = basE c h → ∃ r', Le (.tup [.d (.ints .i64 l), .d (.v (.int .i64 e))]) r' ∧ K r' := fun l e e1 e2 => ⟨_, Le.refl _, by rw [e1, e2]; exact h1⟩
    have hN : ∀ e, basF c h = [] → e = basE c h → ∃ r', Le (.tup [.d (.v (.slice none 0 0)), .d (.v (.int .i64 e))]) r' ∧ K r' := fun e e1 e2 => ⟨_, Le.tup (Les.cons (DLe.nil_ints .i64).le (Les.refl _)), by rw [e2]; rw [e1] at h1; exact h1⟩
    refine does_mk noEq_ok spsB1_ok Tryd.func43 {} (fun i g s h => by cases h) [13] ?_
    repeat' (first | refine And.intro ?_ ?_ | intro _ | (refine brK_id ?_; first | with_reducible refine brK_t ?_ | with_reducible refine brK_f ?_ | with_reducible refine brK_dec ?_ ?_ | with_reducible refine brK_ndec ?_ ?_ | refine brK_of ?_ ?_) | exact True.intro | refine hN _ ?_ ?_ | refine hK _ _ ?_ ?_ | refine ExL.intro (id := 6) (basL6 h) ?_ | refine ExL.intro (id := 16) (basL16 (presN h (by assumption : BI).i) (indF (pickF (genF c) (presN h (by assumption : BI).i)))) ?_ | refine Exists.intro (BO.mk ((by assumption : BO).o + 1)) ?_ | refine Exists.intro (BI.mk ((by assumption : BI).i + 1)) ?_ | refine Exists.intro (α := List (List Int)) c.parity ?_ | fail)
    all_goals (try (refine ⟨?_⟩))
    all_goals (try with_reducible rfl)
    all_goals (try (exact Rows.self _))
    all_goals (try (exact (bas_no (.inl (by assumption))).1))
    all_goals (try (exact (bas_no (.inl (by assumption))).2))
    all_goals (try (exact (bas_no (.inr (by assumption))).1))
    all_goals (try (exact (bas_no (.inr (by assumption))).2))
    all_goals (have hE := (by assumption : genE c = 0))
    all_goals (have hL := (by assumption : (h.length : Int) = (genF c).rows))
    all_goals (have hy := bas_yes hE hL)
    all_goals (have hr := gen_rows c)
    all_goals (have h32 : h.length ≤ 32 := by omega)
    all_goals (try (have hpl := presN_len h (by assumption : BI).i))
    all_goals (try (have hol := outN_len (presN h (by assumption : BI).i) (indF (pickF (genF c) (presN h (by assumption : BI).i))) (by assumption : BO).o))
    all_goals (try (have hil := ind_len (pickF (genF c) (presN h (by assumption : BI).i))))
    all_goals (try simp only [Int.toNat_natCast, DV.len, maxBytes, List.length_append, List.length_cons, List.length_nil] at *)
    all_goals (try omega)
    all_goals (try (unfold in64; omega))
    all_goals (try (exact ⟨rfl, rfl, rfl, by decide⟩))
    all_goals (try (exact ⟨trivial, trivial, rfl, by decide⟩))
    all_goals (try (exact ⟨trivial, rfl, rfl, by decide⟩))
    all_goals (try (exact ⟨trivial, trivial⟩))
    all_goals (try (rw [presN_zero]; rfl))
    all_goals (try (rw [outN_zero]; rfl))
    all_goals (try (exact (presN_zero h).symm))
    all_goals (try (exact (outN_zero _ _).symm))
    all_goals (try (rw [presN_t (by assumption)]; simp only [List.length_append, List.length_cons, List.length_nil]; done))
    all_goals (try (rw [presN_t (by assumption)]; done))
    all_goals (try (rw [presN_f (by assumption)]; done))
    all_goals (try (rw [outN_succ]; simp only [List.length_append, List.length_cons, List.length_nil]; done))
    all_goals (try (rw [outN_succ]; done))
    all_goals (try (have hi : (by assumption : BI).i = h.length := by omega))
    all_goals (try (rw [hy.2, ← hi, if_pos (by omega)]; done))
    all_goals (try (have ho : ((by assumption : BO).o : Int) < ((indF (pickF (genF c) (presN h (by assumption : BI).i))).length : Int) := by assumption))
    all_goals (try (have ho2 : ¬ ((by assumption : BO).o : Int) < ((indF (pickF (genF c) (presN h (by assumption : BI).i))).length : Int) := by assumption))
    all_goals (try (exact piv_in (c := c) (l := presN h (by assumption : BI).i) (i := (by assumption : BO).o) (by omega)))
    all_goals (try (exact ⟨by omega, by omega⟩))
    · rw [hy.2, ← hi, if_neg (by omega)]
      congr 1
      omega
  · exact h0.elim
/-- erasure.Decodable -/
def decF (c : Cod) (h : List Bool) : Bool := decide (basE c h = 0) && decide (((basF c h).length : Int) = c.data)
def decC : List AV → (AV → Prop) → Prop
  | [a, .d (.bools h)], K => codK a fun c => K (.d (.v (.bool (decF c h))))
  | _, _ => False
def spsB2 : List (Nat × SpecE) := (43, .data fun args K => basC args fun r => K [] r) :: spsB1
theorem spsB2_ok : SpsOk gl0 spsB2 := spsB1_ok.cons ⟨Tryd.f43, Tryd.func43, by decide, rfl⟩ bas_ok
theorem dec_ok : Meets P0 gl0 20 (.lend decC) := by
  intro args K h0
  unfold decC at h0
  split at h0
  · rename_i a h
    obtain ⟨c, h1, hle⟩ := codK_ok h0
    refine Does.conv (args' := [codAV c, .d (.bools h)]) (Les.cons hle (Les.refl _)) ?_
    have hK : ∀ b, b = decF c h → K (.d (.v (.bool b))) := fun b hb => by rw [hb]; exact h1
    refine does_mk noEq_ok spsB2_ok Tryd.func20 {} (fun i g s h => by cases h) [] ?_
    repeat' (first | refine And.intro ?_ ?_ | intro _ | (refine brK_id ?_; first | with_reducible refine brK_t ?_ | with_reducible refine brK_f ?_ | with_reducible refine brK_dec ?_ ?_ | with_reducible refine brK_ndec ?_ ?_ | refine brK_of ?_ ?_) | exact True.intro | refine hK _ ?_ | refine Exists.intro (α := List (List Int)) c.parity ?_ | fail)
    all_goals (try (refine ⟨?_⟩))
    all_goals (try with_reducible rfl)
    all_goals (try (exact Rows.self _))
    all_goals (unfold decF; simp_all)
  · exact h0.elim
end Go.Proofs.YtgdcefohfebleaaDoor.V
/- codelang.Check -/
set_option linter.unusedVariables false
set_option linter.unusedSimpArgs false
namespace Go.Proofs.YtgdcefohfebleaaDoor.V
open Go Go.Proofs

def big : Nat := 140737488355328
def letB (x : Int) : Bool := decide (97 ≤ x) && decide (x ≤ 122)
def digB (x : Int) : Bool := decide (48 ≤ x) && decide (x ≤ 57)
def letC : List AV → (AV → Prop) → Prop
  | [.d (.v (.int .u8 x))], K => K (.d (.v (.bool (letB x))))
  | _, _ => False
def digC : List AV → (AV → Prop) → Prop
  | [.d (.v (.int .u8 x))], K => K (.d (.v (.bool (digB x))))
  | _, _ => False
theorem let_ok : Meets P0 gl0 89 (.lend letC) := by
  intro args K h
  unfold letC at h
  split at h
  · rename_i x
    have hK : ∀ b, b = letB x → K (.d (.v (.bool b))) := fun b hb => by rw [hb]; exact h
    refine does_mk noEq_ok (SpsOk.nil gl0) Tryd.func89 {} (fun i g s h => by cases h) [] ?_
    repeat' (first | refine And.intro ?_ ?_ | intro _ | (refine brK_id ?_; first | with_reducible refine brK_t ?_ | with_reducible refine brK_f ?_ | with_reducible refine brK_dec ?_ ?_ | with_reducible refine brK_ndec ?_ ?_ | refine brK_of ?_ ?_) | exact True.intro | refine hK _ ?_ | fail)
    all_goals (try (refine ⟨?_⟩))
    all_goals (try with_reducible rfl)
    all_goals (unfold letB; simp_all)
    all_goals (try omega)
  · exact h.elim
theorem dig_ok : Meets P0 gl0 90 (.lend digC) := by
  intro args K h
  unfold digC at h
  split at h
  · rename_i x
    have hK : ∀ b, b = digB x → K (.d (.v (.bool b))) := fun b hb => by rw [hb]; exact h
    refine does_mk noEq_ok (SpsOk.nil gl0) Tryd.func90 {} (fun i g s h => by cases h) [] ?_
    repeat' (first | refine And.intro ?_ ?_ | intro _ | (refine brK_id ?_; first | with_reducible refine brK_t ?_ | with_reducible refine brK_f ?_ | with_reducible refine brK_dec ?_ ?_ | with_reducible refine brK_ndec ?_ ?_ | refine brK_of ?_ ?_) | exact True.intro | refine hK _ ?_ | fail)
    all_goals (try (refine ⟨?_⟩))
    all_goals (try with_reducible rfl)
    all_goals (unfold digB; simp_all)
    all_goals (try omega)
  · exact h.elim
def fldB (x : Int) : Bool := decide (x = 8) || decide (x = 16)
def fldC : List AV → (AV → Prop) → Prop
  | [.d (.v (.int .i64 x))], K => K (.d (.v (.bool (fldB x))))
  | _, _ => False
theorem fld_ok : Meets P0 gl0 62 (.lend fldC) := by
  intro args K h
  unfold fldC at h
  split at h
  · rename_i x
    have hK : ∀ b, b = fldB x → K (.d (.v (.bool b))) := fun b hb => by rw [hb]; exact h
    refine does_mk noEq_ok (SpsOk.nil gl0) Tryd.func62 {} (fun i g s h => by cases h) [] ?_
    repeat' (first | refine And.intro ?_ ?_ | intro _ | (refine brK_id ?_; first | with_reducible refine brK_t ?_ | with_reducible refine brK_f ?_ | with_reducible refine brK_dec ?_ ?_ | with_reducible refine brK_ndec ?_ ?_ | refine brK_of ?_ ?_) | exact True.intro | refine hK _ ?_ | fail)
    all_goals (try (refine ⟨?_⟩))
    all_goals (try with_reducible rfl)
    all_goals (unfold fldB; simp_all)
  · exact h.elim
/-- byte i of a string -/
def byteI (s : ByteArray) (i : Nat) : Int := ((s.data.getD i 0).toNat : Int)
def badW (s : ByteArray) (i : Nat) : Bool := !letB (byteI s i) && (decide (i = 0) || !digB (byteI s i))
def wordF (s : ByteArray) : Bool := !anyF (badW s) s.size && !decide (s = ⟨#[]⟩)
def wordC : List AV → (AV → Prop) → Prop
  | [.d (.v (.string s))], K => Ob (s.size ≤ big) ∧ K (.d (.v (.bool (wordF s))))
  | _, _ => False
theorem word_bad {s : ByteArray} {i : Nat} (hi : i < s.size) (h : badW s i = true) : false = wordF s := by
  unfold wordF; rw [anyF_true hi h]; rfl
theorem word_all {s : ByteArray} (h : ∀ j, j < s.size → badW s j = false) : (!decide (s = ⟨#[]⟩)) = wordF s := by
  unfold wordF; rw [anyF_false h]; rfl
theorem badW_next {s : ByteArray} {i : Nat} (h : ∀ j, j < i → badW s j = false) (hi : badW s i = false) : ∀ j, j < i + 1 → badW s j = false := fun j hj => by
  by_cases e : j = i
  · subst e; exact hi
  · exact h j (by omega)
def wordAn (s : ByteArray) : An := { ann := fun k => bif Nat.beq k 2 then some { ι := Nat, nils := [], vars := fun i => [(6, .d (.v (.int .i64 (i : Int))))], mem := fun i => [], inv := fun i => i ≤ s.size ∧ ∀ j, j < i → badW s j = false, init := 0, meas := fun i => s.size - i } else none }
def spsD1 : List (Nat × SpecE) := [(90, .lend digC), (89, .lend letC)]
theorem spsD1_ok : SpsOk gl0 spsD1 := ((SpsOk.nil gl0).cons ⟨Tryd.f89, Tryd.func89, by decide, rfl⟩ let_ok).cons ⟨Tryd.f90, Tryd.func90, by decide, rfl⟩ dig_ok
theorem word_ok : Meets P0 gl0 61 (.lend wordC) := by
  intro args K h
  unfold wordC at h
  split at h
  · rename_i s
    obtain ⟨⟨hs⟩, h⟩ := h
    have hK : ∀ b, b = wordF s → K (.d (.v (.bool b))) := fun b hb => by rw [hb]; exact h
    refine does_mk noEq_ok spsD1_ok Tryd.func61 (wordAn s) (fun i g s h => by cases h) [] ?_
    repeat' (first | refine And.intro ?_ ?_ | intro _ | (refine brK_id ?_; first | with_reducible refine brK_t ?_ | with_reducible refine brK_f ?_ | with_reducible refine brK_dec ?_ ?_ | with_reducible refine brK_ndec ?_ ?_ | refine brK_of ?_ ?_) | exact True.intro | refine hK _ ?_ | refine Exists.intro (Nat.succ (by assumption)) ?_ | fail)
    all_goals (try (refine ⟨?_⟩))
    all_goals (try with_reducible rfl)
    all_goals (try simp only [Int.toNat_natCast, big] at *)
    all_goals (try omega)
    all_goals (try (unfold in64; omega))
    all_goals (try (exact ⟨Nat.zero_le _, fun j hj => absurd hj (Nat.not_lt_zero _)⟩))
    all_goals (try (exact word_bad (i := (by assumption : Nat)) (by omega) (by unfold badW byteI; simp_all)))
    all_goals (try (exact ⟨⟨by omega, badW_next (by assumption : _ ∧ _).2 (by unfold badW byteI; simp_all)⟩, by omega⟩))
    all_goals (try (have hi : (by assumption : Nat) = s.size := by omega))
    all_goals (try (exact word_all (by rw [← hi]; exact (by assumption : _ ∧ _).2)))
  · exact h.elim
/-! ### slices.Min, slices.Max -/
def minN (l : List Int) : Nat → Int
  | 0 => l.getD 0 0
  | k + 1 => if l.getD (k + 1) 0 < minN l k then l.getD (k + 1) 0 else minN l k
def maxN (l : List Int) : Nat → Int
  | 0 => l.getD 0 0
  | k + 1 => if l.getD (k + 1) 0 > maxN l k then l.getD (k + 1) 0 else maxN l k
def minC : List AV → (AV → Prop) → Prop
  | [.d (.ints .i64 l)], K => Ob (0 < l.length ∧ l.length ≤ big) ∧ K (.d (.v (.int .i64 (minN l (l.length - 1)))))
  | _, _ => False
def maxC : List AV → (AV → Prop) → Prop
  | [.d (.ints .i64 l)], K => Ob (0 < l.length ∧ l.length ≤ big) ∧ K (.d (.v (.int .i64 (maxN l (l.length - 1)))))
  | _, _ => False
def minAn (l : List Int) : An := { ann := fun k => bif Nat.beq k 5 then some { ι := Nat, nils := [], vars := fun i => [(4, .d (.v (.int .i64 ((i : Int) + 1)))), (3, .d (.v (.int .i64 (minN l i))))], mem := fun i => [], inv := fun i => i + 1 ≤ l.length, init := 0, meas := fun i => l.length - i } else none }
def maxAn (l : List Int) : An := { ann := fun k => bif Nat.beq k 5 then some { ι := Nat, nils := [], vars := fun i => [(4, .d (.v (.int .i64 ((i : Int) + 1)))), (3, .d (.v (.int .i64 (maxN l i))))], mem := fun i => [], inv := fun i => i + 1 ≤ l.length, init := 0, meas := fun i => l.length - i } else none }
theorem toNat_succ (i : Nat) : ((i : Int) + 1).toNat = i + 1 := by omega
theorem minN_zero (l : List Int) : minN l 0 = l.getD 0 0 := rfl
theorem minN_succ (l : List Int) (k : Nat) : minN l (k + 1) = if l.getD (k + 1) 0 < minN l k then l.getD (k + 1) 0 else minN l k := rfl
theorem maxN_zero (l : List Int) : maxN l 0 = l.getD 0 0 := rfl
theorem maxN_succ (l : List Int) (k : Nat) : maxN l (k + 1) = if l.getD (k + 1) 0 > maxN l k then l.getD (k + 1) 0 else maxN l k := rfl
attribute [local irreducible] minN maxN
set_option maxRecDepth 20000 in
theorem min_ok : Meets P0 gl0 63 (.lend minC) := by
  intro args K h
  unfold minC at h
  split at h
  · rename_i l
    obtain ⟨⟨h0, hs⟩, h⟩ := h
    have hno : ¬ ((l.length : Nat) : Int) < 1 := by clear hs; omega
    have hK : ∀ b, b = minN l (l.length - 1) → K (.d (.v (.int .i64 b))) := fun b hb => by rw [hb]; exact h
    refine does_mk noEq_ok (SpsOk.nil gl0) Tryd.func63 (minAn l) (fun i g s h => by cases h) [] ?_
    repeat' (first | exact absurd (by with_reducible assumption) hno | refine And.intro ?_ ?_ | intro _ | (refine brK_id ?_; first | with_reducible refine brK_t ?_ | with_reducible refine brK_f ?_ | with_reducible refine brK_dec ?_ ?_ | with_reducible refine brK_ndec ?_ ?_ | refine brK_of ?_ ?_) | exact True.intro | refine hK _ ?_ | refine Exists.intro (Nat.succ (by assumption)) ?_ | fail)
    all_goals (try (refine ⟨?_⟩))
    all_goals (try with_reducible rfl)
    all_goals (try simp only [Int.toNat_natCast, big, toNat_succ] at *)
    all_goals (try omega)
    all_goals (try (unfold in64; omega))
    all_goals (try (rw [minN_zero]; rfl))
    all_goals (try (rw [minN_succ]; rfl))
    all_goals (try (congr 1; omega))
    all_goals (exact (minN_succ _ _).symm)
  · exact h.elim
set_option maxRecDepth 20000 in
theorem max_ok : Meets P0 gl0 64 (.lend maxC) := by
  intro args K h
  unfold maxC at h
  split at h
  · rename_i l
    obtain ⟨⟨h0, hs⟩, h⟩ := h
    have hno : ¬ ((l.length : Nat) : Int) < 1 := by clear hs; omega
    have hK : ∀ b, b = maxN l (l.length - 1) → K (.d (.v (.int .i64 b))) := fun b hb => by rw [hb]; exact h
    refine does_mk noEq_ok (SpsOk.nil gl0) Tryd.func64 (maxAn l) (fun i g s h => by cases h) [] ?_
    repeat' (first | exact absurd (by with_reducible assumption) hno | refine And.intro ?_ ?_ | intro _ | (refine brK_id ?_; first | with_reducible refine brK_t ?_ | with_reducible refine brK_f ?_ | with_reducible refine brK_dec ?_ ?_ | with_reducible refine brK_ndec ?_ ?_ | refine brK_of ?_ ?_) | exact True.intro | refine hK _ ?_ | refine Exists.intro (Nat.succ (by assumption)) ?_ | fail)
    all_goals (try (refine ⟨?_⟩))
    all_goals (try with_reducible rfl)
    all_goals (try simp only [Int.toNat_natCast, big, toNat_succ] at *)
    all_goals (try omega)
    all_goals (try (unfold in64; omega))
    all_goals (try (rw [maxN_zero]; rfl))
    all_goals (try (rw [maxN_succ]; rfl))
    all_goals (try (congr 1; omega))
    all_goals (exact (maxN_succ _ _).symm)
  · exact h.elim
/-! ### codelang.Check -/
def rowBad (f d : Int) (r : List Int) : Bool := !decide ((r.length : Int) = d) || (decide (minN r (r.length - 1) < 0) || (decide (maxN r (r.length - 1) < 1) || decide (0 < maxN r (r.length - 1) / 2 ^ min f.toNat 64)))
def chkF (c : Cod) : Int :=
  if wordF c.name = false then 4 else
  if 12 < c.name.size then 2 else
  if fldB c.field = false ∨ c.data < 1 ∨ 31 < c.data ∨ c.parity.length = 0 then 1 else
  if 32 < c.data + (c.parity.length : Int) then 2 else
  if anyF (fun i => rowBad c.field c.data (c.parity.getD i [])) c.parity.length = true then 1 else
  if c.domain < 1 ∨ c.data + (c.parity.length : Int) < c.domain then 1 else 0
theorem chk_w {c : Cod} (h : (!wordF c.name) = true) : 4 = chkF c := by unfold chkF; rw [if_pos (by simpa using h)]
theorem chk_s {c : Cod} (h1 : (!wordF c.name) = false) (h : 12 < (c.name.size : Int)) : 2 = chkF c := by
  unfold chkF; rw [if_neg (by simpa using h1), if_pos (by omega)]
theorem chk_f {c : Cod} (h1 : (!wordF c.name) = false) (h2 : ¬ 12 < (c.name.size : Int)) (h : (!fldB c.field) = true ∨ c.data < 1 ∨ 31 < c.data ∨ (c.parity.length : Int) = 0) : 1 = chkF c := by
  unfold chkF
  rw [if_neg (by simpa using h1), if_neg (by omega), if_pos]
  rcases h with h | h | h | h
  · exact .inl (by simpa using h)
  · exact .inr (.inl h)
  · exact .inr (.inr (.inl h))
  · exact .inr (.inr (.inr (by omega)))
theorem chk_rest {c : Cod} (h1 : (!wordF c.name) = false) (h2 : ¬ 12 < (c.name.size : Int)) (h3 : (!fldB c.field) = false) (h4 : ¬ c.data < 1) (h5 : ¬ 31 < c.data) (h6 : ¬ (c.parity.length : Int) = 0) :
    chkF c = if 32 < c.data + (c.parity.length : Int) then 2 else if anyF (fun i => rowBad c.field c.data (c.parity.getD i [])) c.parity.length = true then 1 else if c.domain < 1 ∨ c.data + (c.parity.length : Int) < c.domain then 1 else 0 := by
  unfold chkF
  rw [if_neg (by simpa using h1), if_neg (by omega), if_neg]
  rintro (h | h | h | h)
  · rw [h] at h3; cases h3
  · exact h4 h
  · exact h5 h
  · omega
theorem fldB_or {f : Int} (h : (!fldB f) = false) : f = 8 ∨ f = 16 := by
  unfold fldB at h
  simp only [Bool.not_eq_false', Bool.or_eq_true, decide_eq_true_eq] at h
  exact h
theorem bad_len {f d : Int} {r : List Int} (h : ¬ (r.length : Int) = d) : rowBad f d r = true := by unfold rowBad; rw [decide_eq_false h]; rfl
theorem bad_min {f d : Int} {r : List Int} (h : minN r (r.length - 1) < 0) : rowBad f d r = true := by unfold rowBad; rw [decide_eq_true h]; simp
theorem bad_max {f d : Int} {r : List Int} (h : maxN r (r.length - 1) < 1) : rowBad f d r = true := by unfold rowBad; rw [decide_eq_true h]; simp
theorem bad_top {f d : Int} {r : List Int} (h : 0 < maxN r (r.length - 1) / 2 ^ min f.toNat 64) : rowBad f d r = true := by unfold rowBad; rw [decide_eq_true h]; simp
theorem row_good {f d : Int} {r : List Int} (h1 : (r.length : Int) = d) (h2 : ¬ minN r (r.length - 1) < 0) (h3 : ¬ maxN r (r.length - 1) < 1) (h4 : ¬ 0 < maxN r (r.length - 1) / 2 ^ min f.toNat 64) : rowBad f d r = false := by
  unfold rowBad; rw [decide_eq_true h1, decide_eq_false h2, decide_eq_false h3, decide_eq_false h4]; rfl
theorem rows_next {f d : Int} {p : List (List Int)} {i : Nat} (h : ∀ j, j < i → rowBad f d (p.getD j []) = false) (hi : rowBad f d (p.getD i []) = false) : ∀ j, j < i + 1 → rowBad f d (p.getD j []) = false := fun j hj => by
  by_cases e : j = i
  · subst e; exact hi
  · exact h j (by omega)
def planChk : Plan := .take 0 (.take 1 (.take 2 (.take 3 (.take 4 (.take 5 (.take 6 (.alt 7 (.take 8 (.take 9 (.take 10 (.take 11 (.alt 12 (.take 13 (.take 14 (.take 15 (.take 16 (.take 18 (.take 19 (.alt 17 (.take 20 (.take 21 (.take 22 (.done)))) (.done)))))))) (.done)))))) (.done))))))))
def chkAn (c : Cod) : An := { wm := fun k => Nat.beq k 11, plan := fun k => bif Nat.beq k 13 then some planChk else none, ann := fun k => bif Nat.beq k 11 then some { ι := Nat, nils := [], vars := fun i => [(49, .d (.v (.int .i64 (i : Int))))], mem := fun i => [], inv := fun i => i ≤ c.parity.length ∧ ∀ j, j < i → rowBad c.field c.data (c.parity.getD j []) = false, init := 0, meas := fun i => c.parity.length - i } else none }
def chkC : List AV → (AV → Prop) → Prop
  | [a], K => codK a fun c => Ob (c.name.size ≤ big ∧ c.parity.length ≤ big) ∧ K (.d (.v (.int .i64 (chkF c))))
  | _, _ => False
def spsD2 : List (Nat × SpecE) := [(64, .lend maxC), (63, .lend minC), (62, .lend fldC), (61, .lend wordC)]
theorem spsD2_ok : SpsOk gl0 spsD2 := ((((SpsOk.nil gl0).cons ⟨Tryd.f61, Tryd.func61, by decide, rfl⟩ word_ok).cons ⟨Tryd.f62, Tryd.func62, by decide, rfl⟩ fld_ok).cons ⟨Tryd.f63, Tryd.func63, by decide, rfl⟩ min_ok).cons ⟨Tryd.f64, Tryd.func64, by decide, rfl⟩ max_ok
attribute [local irreducible] wordF
set_option maxRecDepth 20000 in
theorem chk_ok : Meets P0 gl0 33 (.lend chkC) := by
  intro args K h
  unfold chkC at h
  split at h
  · obtain ⟨⟨nm, f, d, p, dm⟩, ⟨⟨hs, hp⟩, h⟩, hle⟩ := codK_ok h
    refine Does.conv (args' := [codAV ⟨nm, f, d, p, dm⟩]) (Les.cons hle (Les.refl _)) ?_
    have hK : ∀ b, b = chkF ⟨nm, f, d, p, dm⟩ → K (.d (.v (.int .i64 b))) := fun b hb => by rw [hb]; exact h
    refine does_mk noEq_ok spsD2_ok Tryd.func33 (chkAn ⟨nm, f, d, p, dm⟩) (fun i g s h => by cases h) [] ?_
    repeat' (first | refine And.intro ?_ ?_ | intro _ | (refine brK_id ?_; first | with_reducible refine brK_t ?_ | with_reducible refine brK_f ?_ | with_reducible refine brK_dec ?_ ?_ | with_reducible refine brK_ndec ?_ ?_ | refine brK_of ?_ ?_) | exact True.intro | refine hK _ ?_ | refine Exists.intro (Nat.succ (by assumption)) ?_ | fail)
    all_goals (try (refine ⟨?_⟩))
    all_goals (try with_reducible rfl)
    all_goals (try (exact ⟨by kernel_rfl, by kernel_rfl⟩))
    all_goals (try (dsimp only at *))
    all_goals (try (exact ⟨Nat.zero_le _, fun j hj => absurd hj (Nat.not_lt_zero _)⟩))
    all_goals (try simp only [Int.toNat_natCast, big] at *)
    all_goals (try omega)
    all_goals (try (exact chk_w (c := ⟨nm, f, d, p, dm⟩) (by assumption)))
    all_goals (have g1 := (by assumption : (!wordF nm) = false))
    all_goals (try (exact chk_s (c := ⟨nm, f, d, p, dm⟩) g1 (by assumption)))
    all_goals (have g2 := (by assumption : ¬ 12 < (nm.size : Int)))
    all_goals (try (exact chk_f (c := ⟨nm, f, d, p, dm⟩) g1 g2 (.inl (by assumption))))
    all_goals (have g3 := (by assumption : (!fldB f) = false))
    all_goals (try (exact chk_f (c := ⟨nm, f, d, p, dm⟩) g1 g2 (.inr (.inl (by assumption)))))
    all_goals (have g4 := (by assumption : ¬ d < 1))
    all_goals (try (exact chk_f (c := ⟨nm, f, d, p, dm⟩) g1 g2 (.inr (.inr (.inl (by assumption))))))
    all_goals (have g5 := (by assumption : ¬ 31 < d))
    all_goals (try (exact chk_f (c := ⟨nm, f, d, p, dm⟩) g1 g2 (.inr (.inr (.inr (by assumption))))))
    all_goals (have g6 := (by assumption : ¬ (p.length : Int) = 0))
    all_goals (have hwr : IntKind.i64.wrap (d + (p.length : Int)) = d + (p.length : Int) := wrap_in64 (by unfold in64; omega))
    all_goals (try simp only [hwr] at *)
    all_goals (have hf := fldB_or g3)
    all_goals (try omega)
    all_goals (try (unfold in64; omega))
    all_goals (try (rw [chk_rest (c := ⟨nm, f, d, p, dm⟩) g1 g2 g3 g4 g5 g6]; dsimp only))
    all_goals (try (rw [if_pos (by assumption)]; done))
    all_goals (try (have g7 := (by assumption : ¬ 32 < d + (p.length : Int)); rw [if_neg g7]))
    all_goals (try (rw [if_pos (anyF_true (i := (by assumption : Nat)) (by omega) (bad_len (by assumption)))]; done))
    all_goals (try (rw [if_pos (anyF_true (i := (by assumption : Nat)) (by omega) (bad_min (by assumption)))]; done))
    all_goals (try (rw [if_pos (anyF_true (i := (by assumption : Nat)) (by omega) (bad_max (by assumption)))]; done))
    all_goals (try (rw [if_pos (anyF_true (i := (by assumption : Nat)) (by omega) (bad_top (by assumption)))]; done))
    all_goals (try (exact ⟨⟨by omega, rows_next (by assumption : _ ∧ _).2 (row_good (by assumption) (by assumption) (by assumption) (by assumption))⟩, by omega⟩))
    all_goals (obtain ⟨i, hq, hi⟩ : ∃ i : Nat, (i ≤ p.length ∧ ∀ j, j < i → rowBad f d (p.getD j []) = false) ∧ ¬ (i : Int) < (p.length : Int) := ⟨_, by assumption, by assumption⟩)
    all_goals (rw [if_neg (by rw [anyF_false (fun j hj => hq.2 j (by omega))]; simp)])
    · rw [if_pos (.inl (by assumption))]
    · rw [if_pos (.inr (by assumption))]
    · rw [if_neg]
      rintro (h | h)
      · omega
      · omega
  · exact h.elim
end Go.Proofs.YtgdcefohfebleaaDoor.V
/- distance.present, valid; slices.Clone of ints and bools -/
set_option linter.unusedVariables false
set_option linter.unusedSimpArgs false
namespace Go.Proofs.YtgdcefohfebleaaDoor.V
open Go Go.Proofs

def presL (h : List Bool) : LAnn := { ι := BI, nils := [(2, 2, 3, .ints .i64 [])], vars := fun x => [(7, .d (.v (.int .i64 (x.i : Int)))), (2, .own 2 (presN h x.i).length)], mem := fun x => [(2, .row 3 (.ints .i64 (presN h x.i)))], inv := fun x => x.i ≤ h.length, init := ⟨0⟩, meas := fun x => h.length - x.i }
def presC : List AV → (AV → Prop) → Prop
  | [.d (.bools h)], K => Ob (h.length ≤ 1000000) ∧ K (.d (.ints .i64 (presN h h.length)))
  | _, _ => False
attribute [local irreducible] presN
set_option maxRecDepth 20000 in
theorem pres_ok : Meets P0 gl0 97 (.data fun args K => presC args fun r => K [] r) := Meets.data fun args K h0 => by
  unfold presC at h0
  split at h0
  · rename_i h
    obtain ⟨⟨hl⟩, h1⟩ := h0
    have hK : ∀ l, l = presN h h.length → ∃ r', Le (.d (.ints .i64 l)) r' ∧ K r' := fun l e1 => ⟨_, Le.refl _, by rw [e1]; exact h1⟩
    refine does_mk noEq_ok (SpsOk.nil gl0) Tryd.func97 {} (fun i g s h => by cases h) [2] ?_
    repeat' (first | refine And.intro ?_ ?_ | intro _ | (refine brK_id ?_; first | with_reducible refine brK_t ?_ | with_reducible refine brK_f ?_ | with_reducible refine brK_dec ?_ ?_ | with_reducible refine brK_ndec ?_ ?_ | refine brK_of ?_ ?_) | exact True.intro | refine hK _ ?_ | refine ExL.intro (id := 2) (presL h) ?_ | refine Exists.intro (BI.mk ((by assumption : BI).i + 1)) ?_ | fail)
    all_goals (try (refine ⟨?_⟩))
    all_goals (try with_reducible rfl)
    all_goals (try (have hpl := presN_len h (by assumption : BI).i))
    all_goals (try simp only [Int.toNat_natCast, DV.len, maxBytes, List.length_append, List.length_cons, List.length_nil] at *)
    all_goals (try omega)
    all_goals (try (unfold in64; omega))
    all_goals (try (exact ⟨rfl, rfl, rfl, by decide⟩))
    all_goals (try (exact ⟨trivial, trivial, rfl, by decide⟩))
    all_goals (try (exact ⟨trivial, rfl, rfl, by decide⟩))
    all_goals (try (exact ⟨trivial, trivial⟩))
    all_goals (try (rw [presN_zero]; rfl))
    all_goals (try (exact (presN_zero h).symm))
    all_goals (try (rw [presN_t (by assumption)]; simp only [List.length_append, List.length_cons, List.length_nil]; done))
    all_goals (try (rw [presN_t (by assumption)]; done))
    all_goals (try (rw [presN_f (by assumption)]; done))
    all_goals (try (have hi : (by assumption : BI).i = h.length := by omega))
    all_goals (try (rw [hi]; done))
  · exact h0.elim
/-- distance.valid -/
def dvF (c : Cod) (n : Int) : Bool := decide (chkF c = 0) && decide (n = widthF c)
def dvC : List AV → (AV → Prop) → Prop
  | [a, .d (.v (.int .i64 n))], K => codK a fun c => Ob (c.name.size ≤ big ∧ c.parity.length ≤ big) ∧ K (.d (.v (.bool (dvF c n))))
  | _, _ => False
def spsV1 : List (Nat × SpecE) := (33, .lend chkC) :: spsB2
theorem spsV1_ok : SpsOk gl0 spsV1 := spsB2_ok.cons ⟨Tryd.f33, Tryd.func33, by decide, rfl⟩ chk_ok
attribute [local irreducible] chkF widthF
theorem dv_ok : Meets P0 gl0 78 (.lend dvC) := by
  intro args K h
  unfold dvC at h
  split at h
  · rename_i a n
    obtain ⟨c, ⟨⟨hs, hp⟩, h⟩, hle⟩ := codK_ok h
    refine Does.conv (args' := [codAV c, .d (.v (.int .i64 n))]) (Les.cons hle (Les.refl _)) ?_
    have hK : ∀ b, b = dvF c n → K (.d (.v (.bool b))) := fun b hb => by rw [hb]; exact h
    refine does_mk noEq_ok spsV1_ok Tryd.func78 {} (fun i g s h => by cases h) [] ?_
    repeat' (first | refine And.intro ?_ ?_ | intro _ | (refine brK_id ?_; first | with_reducible refine brK_t ?_ | with_reducible refine brK_f ?_ | with_reducible refine brK_dec ?_ ?_ | with_reducible refine brK_ndec ?_ ?_ | refine brK_of ?_ ?_) | exact True.intro | refine hK _ ?_ | refine Exists.intro (α := List (List Int)) c.parity ?_ | fail)
    all_goals (try (refine ⟨?_⟩))
    all_goals (try with_reducible rfl)
    all_goals (try (exact Rows.self _))
    all_goals (try (exact ⟨hs, hp⟩))
    all_goals (unfold dvF; simp_all)
  · exact h.elim
end Go.Proofs.YtgdcefohfebleaaDoor.V
/- slices.Clone of bools, ints -/
set_option linter.unusedVariables false
set_option linter.unusedSimpArgs false
namespace Go.Proofs.YtgdcefohfebleaaDoor.V
open Go Go.Proofs

def clBC : List AV → (MM → AV → Prop) → Prop
  | [.d (.bools h)], K => Ob (h.length ≤ big) ∧ ∀ l n, l = h → n = h.length → K [(0, .row 4 (.bools l))] (.own 0 n)
  | _, _ => False
theorem clB_ok : Meets P0 gl0 99 (.data clBC) := by
  intro args K h0
  unfold clBC at h0
  split at h0
  · rename_i h
    obtain ⟨⟨hl⟩, hK⟩ := h0
    refine Does.cut ?_
    have hN : h.length = 0 → ∀ mm, (∀ k, lkM k mm = .gone) → (K mm (.d (.v (.slice none 0 0))) ∨ (∃ e r1 r0, mm = [(0, ABlk.row e r1)] ∧ Pre r0 r1 ∧ K [(0, .row e r0)] (.d (.v (.slice none 0 0)))) ∨ (∃ e r0, (∀ k, lkM k mm = .gone) ∧ AV.d (.v (.slice none 0 0)) = .d (.v (.slice none 0 0)) ∧ DV.isSl r0 = true ∧ DV.len r0 = 0 ∧ K [(0, .row e r0)] (.own 0 0))) := fun h0 mm hm =>
      .inr (.inr ⟨4, .bools [], hm, rfl, rfl, rfl, hK [] 0 (List.eq_nil_of_length_eq_zero h0).symm h0.symm⟩)
    refine does_mk noEq_ok (SpsOk.nil gl0) Tryd.func99 {} (fun i g s h => by cases h) [5] ?_
    repeat' (first | refine And.intro ?_ ?_ | intro _ | (refine brK_id ?_; first | with_reducible refine brK_t ?_ | with_reducible refine brK_f ?_ | with_reducible refine brK_dec ?_ ?_ | with_reducible refine brK_ndec ?_ ?_ | refine brK_of ?_ ?_) | exact True.intro | (refine hN ?_ _ ?_) | (refine Or.inl (hK _ _ ?_ ?_)) | fail)
    all_goals (try (refine ⟨?_⟩))
    all_goals (try with_reducible rfl)
    all_goals (try simp only [DV.len, maxBytes, big, List.nil_append] at *)
    all_goals (try omega)
    all_goals (try (exact (by assumption : _ = true → _) (by assumption)))
    all_goals (try (exact (lkM_gone _ 0).symm))
    all_goals (simp only [List.length_nil, List.nil_append, List.length_append, Nat.zero_add] at *)
    all_goals omega
  · exact h0.elim
def clIC : List AV → (MM → AV → Prop) → Prop
  | [.d (.ints .i64 h)], K => Ob (h.length * 8 ≤ big) ∧ ∀ l n, l = h → n = h.length → K [(0, .row 3 (.ints .i64 l))] (.own 0 n)
  | _, _ => False
theorem clI_ok : Meets P0 gl0 69 (.data clIC) := by
  intro args K h0
  unfold clIC at h0
  split at h0
  · rename_i h
    obtain ⟨⟨hl⟩, hK⟩ := h0
    refine Does.cut ?_
    have hN : h.length = 0 → ∀ mm, (∀ k, lkM k mm = .gone) → (K mm (.d (.v (.slice none 0 0))) ∨ (∃ e r1 r0, mm = [(0, ABlk.row e r1)] ∧ Pre r0 r1 ∧ K [(0, .row e r0)] (.d (.v (.slice none 0 0)))) ∨ (∃ e r0, (∀ k, lkM k mm = .gone) ∧ AV.d (.v (.slice none 0 0)) = .d (.v (.slice none 0 0)) ∧ DV.isSl r0 = true ∧ DV.len r0 = 0 ∧ K [(0, .row e r0)] (.own 0 0))) := fun h0 mm hm =>
      .inr (.inr ⟨3, (.ints .i64 []), hm, rfl, rfl, rfl, hK [] 0 (List.eq_nil_of_length_eq_zero h0).symm h0.symm⟩)
    refine does_mk noEq_ok (SpsOk.nil gl0) Tryd.func69 {} (fun i g s h => by cases h) [5] ?_
    repeat' (first | refine And.intro ?_ ?_ | intro _ | (refine brK_id ?_; first | with_reducible refine brK_t ?_ | with_reducible refine brK_f ?_ | with_reducible refine brK_dec ?_ ?_ | with_reducible refine brK_ndec ?_ ?_ | refine brK_of ?_ ?_) | exact True.intro | (refine hN ?_ _ ?_) | (refine Or.inl (hK _ _ ?_ ?_)) | fail)
    all_goals (try (refine ⟨?_⟩))
    all_goals (try with_reducible rfl)
    all_goals (try simp only [DV.len, maxBytes, big, List.nil_append] at *)
    all_goals (try omega)
    all_goals (try (exact (by assumption : _ = true → _) (by assumption)))
    all_goals (try (exact (lkM_gone _ 0).symm))
    all_goals (simp only [List.length_nil, List.nil_append, List.length_append, Nat.zero_add] at *)
    all_goals omega
  · exact h0.elim
end Go.Proofs.YtgdcefohfebleaaDoor.V
/- health.Worst -/
set_option linter.unusedVariables false
set_option linter.unusedSimpArgs false
namespace Go.Proofs.YtgdcefohfebleaaDoor.V
open Go Go.Proofs

structure Hl where
  row : Int
  group : Int
  left : Int
  bad : Int
def Hl.none : Hl := ⟨0, 0, 0, 0⟩
def Hl.cell (h : Hl) : Nat → Int
  | 0 => h.row
  | 1 => h.group
  | 2 => h.left
  | _ => h.bad
def hlEl (l : List Hl) (i j : Nat) : DV := .v (.int .i64 ((l.getD i Hl.none).cell j))
def hlDV (l : List Hl) : DV := .gen 4 l.length (hlEl l)
/-- these elements are these stripes -/
def Hls (n : Nat) (el : Nat → Nat → DV) (l : List Hl) : Prop := n = l.length ∧ ∀ i j, i < n → j < 4 → el i j = hlEl l i j
theorem Hls.le {n : Nat} {el : Nat → Nat → DV} {l : List Hl} (h : Hls n el l) : DLe (.gen 4 n el) (hlDV l) := by
  obtain ⟨rfl, h⟩ := h
  exact DLe.gen fun i j hi hj => DLe.of_eq (h i j hi hj)
theorem Hls.self (l : List Hl) : Hls l.length (hlEl l) l := ⟨rfl, fun _ _ _ _ => rfl⟩
def worstN (l : List Hl) : Nat → Int
  | 0 => 4
  | i + 1 => if i = 0 ∨ (l.getD i Hl.none).left < worstN l i then (l.getD i Hl.none).left else worstN l i
def worstAn (l : List Hl) : An := { ann := fun k => bif Nat.beq k 3 then some { ι := Nat, nils := [], vars := fun i => [(8, .d (.v (.int .i64 (i : Int)))), (3, .d (.v (.int .i64 (worstN l i))))], mem := fun i => [], inv := fun i => i ≤ l.length, init := 0, meas := fun i => l.length - i } else none }
def worstC : List AV → (AV → Prop) → Prop
  | [.d (.gen 4 n el)], K => ∃ l, Ob (Hls n el l ∧ n ≤ big) ∧ K (.d (.v (.int .i64 (worstN l n))))
  | _, _ => False
theorem worst_zero (l : List Hl) : worstN l 0 = 4 := rfl
theorem worst_succ (l : List Hl) (i : Nat) : worstN l (i + 1) = if i = 0 ∨ (l.getD i Hl.none).left < worstN l i then (l.getD i Hl.none).left else worstN l i := rfl
attribute [local irreducible] worstN
set_option maxRecDepth 20000 in
theorem worst_ok : Meets P0 gl0 30 (.lend worstC) := by
  intro args K h
  unfold worstC at h
  split at h
  · rename_i n el
    obtain ⟨l, ⟨hr, hn⟩, h⟩ := h
    obtain rfl : n = l.length := hr.1
    refine Does.conv (args' := [.d (hlDV l)]) (Les.cons hr.le.le (Les.refl _)) ?_
    have hK : ∀ b, b = worstN l l.length → K (.d (.v (.int .i64 b))) := fun b hb => by rw [hb]; exact h
    refine does_mk noEq_ok (SpsOk.nil gl0) Tryd.func30 (worstAn l) (fun i g s h => by cases h) [] ?_
    repeat' (first | refine And.intro ?_ ?_ | intro _ | (refine brK_id ?_; first | with_reducible refine brK_t ?_ | with_reducible refine brK_f ?_ | with_reducible refine brK_dec ?_ ?_ | with_reducible refine brK_ndec ?_ ?_ | refine brK_of ?_ ?_) | exact True.intro | refine hK _ ?_ | refine Exists.intro (Nat.succ (by assumption)) ?_ | fail)
    all_goals (try (refine ⟨?_⟩))
    all_goals (try with_reducible rfl)
    all_goals (try simp only [Int.toNat_natCast, big, Nat.succ_eq_add_one] at *)
    all_goals (try omega)
    all_goals (try (unfold in64; omega))
    · exact (worst_zero l).symm
    · rw [worst_succ, if_pos (.inl (by omega))]; rfl
    · rw [worst_succ, if_pos (.inr (by assumption))]; rfl
    · rw [worst_succ, if_neg]
      rintro (h | h)
      · omega
      · exact absurd h (by assumption)
    · congr 1; omega
  · exact h.elim
end Go.Proofs.YtgdcefohfebleaaDoor.V
/- health.Full$1; the laws' par and at -/
set_option linter.unusedVariables false
set_option linter.unusedSimpArgs false
namespace Go.Proofs.YtgdcefohfebleaaDoor.V
open Go Go.Proofs

def C58 : List AV → (AV → Prop) → Prop
  | [.d (.v (.int .i64 x))], K => K (.d (.v (.bool (!decide (x = 1)))))
  | _, _ => False
theorem ok58 : Meets P0 gl0 58 (.lend C58) := by
  intro args K h
  unfold C58 at h
  split at h
  · rename_i x
    have hK' : ∀ r, r = (!decide (x = 1)) → K (.d (.v (.bool r))) := fun r hr => by rw [hr]; exact h
    refine does_mk noEq_ok (SpsOk.nil gl0) Tryd.func58 {} (fun i g s h => by cases h) [] ?_
    repeat' (first | refine And.intro ?_ ?_ | intro _ | (refine brK_id ?_; first | with_reducible refine brK_t ?_ | with_reducible refine brK_f ?_ | with_reducible refine brK_dec ?_ ?_ | with_reducible refine brK_ndec ?_ ?_ | refine brK_of ?_ ?_) | exact True.intro | refine hK' _ ?_ | fail)
    all_goals (try (refine ⟨?_⟩))
    all_goals rfl
  · exact h.elim
def hlAV (h : Hl) : AV := .agg [.d (.v (.int .i64 h.row)), .d (.v (.int .i64 h.group)), .d (.v (.int .i64 h.left)), .d (.v (.int .i64 h.bad))]
def atC : List AV → (AV → Prop) → Prop
  | [.d (.v (.int .i64 r)), .d (.v (.int .i64 l)), .d (.v (.int .i64 b))], K => K (hlAV ⟨r, 0, l, b⟩)
  | _, _ => False
theorem at_ok : Meets P0 gl0 49 (.lend atC) := by
  intro args K h
  unfold atC at h
  split at h
  · rename_i r l b
    refine does_mk noEq_ok (SpsOk.nil gl0) Tryd.func49 {} (fun i g s h => by cases h) [] ?_
    repeat' (first | exact h | refine And.intro ?_ ?_ | intro _ | (refine brK_id ?_; first | with_reducible refine brK_t ?_ | with_reducible refine brK_f ?_ | with_reducible refine brK_dec ?_ ?_ | with_reducible refine brK_ndec ?_ ?_ | refine brK_of ?_ ?_) | exact True.intro | fail)
    all_goals (try (refine ⟨?_⟩))
    all_goals (try with_reducible rfl)
  · exact h.elim
theorem rows1 {el : Nat → Nat → DV} {r : List Int} (h : el 0 0 = .ints .i64 r) : Rows 1 el [r] := by
  refine ⟨rfl, fun i hi => ?_⟩
  obtain rfl : i = 0 := by omega
  exact h
def parCod : Cod := ⟨⟨#[112, 97, 114]⟩, 8, 2, [[1, 1]], 3⟩
def parC : List AV → (AV → Prop) → Prop
  | [], K => K (codAV parCod)
  | _, _ => False
theorem par_ok : Meets P0 gl0 48 (.data fun args K => parC args fun r => K [] r) := Meets.data fun args K h => by
  unfold parC at h
  split at h
  · have hK : ∀ el : Nat → Nat → DV, el 0 0 = .ints .i64 [1, 1] → ∃ r', Le (.agg [.d (.v (.string ⟨#[112, 97, 114]⟩)), .d (.v (.int .i64 8)), .d (.v (.int .i64 2)), .d (.gen 1 1 el), .d (.v (.int .i64 3))]) r' ∧ K r' := fun el he =>
      ⟨codAV parCod, Le.agg (Les.cons (Le.refl _) (Les.cons (Le.refl _) (Les.cons (Le.refl _) (Les.cons (rows1 he).le.le (Les.refl _))))), h⟩
    refine does_mk noEq_ok (SpsOk.nil gl0) Tryd.func48 {} (fun i g s h => by cases h) [1, 2] ?_
    repeat' (first | refine And.intro ?_ ?_ | intro _ | (refine brK_id ?_; first | with_reducible refine brK_t ?_ | with_reducible refine brK_f ?_ | with_reducible refine brK_dec ?_ ?_ | with_reducible refine brK_ndec ?_ ?_ | refine brK_of ?_ ?_) | exact True.intro | refine hK _ ?_ | fail)
    all_goals (try (refine ⟨?_⟩))
    all_goals (try with_reducible rfl)
    all_goals (first | rfl | exact ⟨rfl, rfl⟩)
  · exact h.elim
end Go.Proofs.YtgdcefohfebleaaDoor.V
