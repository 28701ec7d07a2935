/-
  Proved here, step by step for the theorem UW: Types, checked by the kernel.; A round of a loop over a function does what vcR shows.; What the program's functions do: the frame of the proofs.; health.Have; field.modulus; slices.IndexFunc, slices.ContainsFunc of ints; field.all, field.Valid; field.all, field.Valid; field.product, field.Mul; field.product, field.Mul: what calls of them do; field.degree
  Conditions: those that stand in each theorem.
-/
import Derived.Test.YtgdcefohfebleaaDoorProg
import Derived.KernelRfl
import Derived.Test.YtgdcefohfebleaaDoorM07
/- Types, checked by the kernel. -/
set_option linter.unusedVariables false
set_option linter.unusedSimpArgs false
namespace Go.Proofs.YtgdcefohfebleaaDoor.V
open Go Go.RowKit

def valB : Value → Value → Bool
  | .int k x, .int k' y => decide (k = k') && decide (x = y)
  | .bool x, .bool y => decide (x = y)
  | .string x, .string y => decide (x = y)
  | .slice none a b, .slice none c d => Nat.beq a c && Nat.beq b d
  | .pointer none, .pointer none => true
  | .nilFunc, .nilFunc => true
  | .nilIface, .nilIface => true
  | _, _ => false
theorem valB_eq {x y : Value} (h : valB x y = true) : x = y ∧ one y = true := by
  unfold valB at h
  split at h
  · simp only [Bool.and_eq_true, decide_eq_true_eq] at h; obtain ⟨rfl, rfl⟩ := h; exact ⟨rfl, rfl⟩
  · simp only [decide_eq_true_eq] at h; subst h; exact ⟨rfl, rfl⟩
  · simp only [decide_eq_true_eq] at h; subst h; exact ⟨rfl, rfl⟩
  · simp only [Bool.and_eq_true] at h
    obtain ⟨h1, h2⟩ := h
    rw [Nat.eq_of_beq_eq_true h1, Nat.eq_of_beq_eq_true h2]; exact ⟨rfl, rfl⟩
  · exact ⟨rfl, rfl⟩
  · exact ⟨rfl, rfl⟩
  · exact ⟨rfl, rfl⟩
  · cases h
def valsB : List Value → List Value → Bool
  | [], [] => true
  | x :: r, y :: s => valB x y && valsB r s
  | _, _ => false
theorem valsB_eq : ∀ {l m : List Value}, valsB l m = true → l = m ∧ ∀ v ∈ m, one v = true
  | [], [], _ => ⟨rfl, fun _ h => by cases h⟩
  | x :: r, y :: s, h => by
    simp only [valsB, Bool.and_eq_true] at h
    obtain ⟨h1, h2⟩ := valB_eq h.1
    obtain ⟨h3, h4⟩ := valsB_eq h.2
    subst h1 h3
    refine ⟨rfl, fun v hv => ?_⟩
    rcases List.mem_cons.1 hv with rfl | hv
    · exact h2
    · exact h4 v hv
  | [], _ :: _, h => by simp [valsB] at h
  | _ :: _, [], h => by simp [valsB] at h
def offsB : List (Nat × Nat × Bool) → List (Nat × Nat × Bool) → Bool
  | [], [] => true
  | (a, b, c) :: r, (a', b', c') :: s => Nat.beq a a' && Nat.beq b b' && (c == c') && offsB r s
  | _, _ => false
theorem offsB_eq : ∀ {l m : List (Nat × Nat × Bool)}, offsB l m = true → l = m
  | [], [], _ => rfl
  | (a, b, c) :: r, (a', b', c') :: s, h => by
    simp only [offsB, Bool.and_eq_true, beq_iff_eq] at h
    obtain ⟨⟨⟨h1, h2⟩, h3⟩, h4⟩ := h
    rw [Nat.eq_of_beq_eq_true h1, Nat.eq_of_beq_eq_true h2, h3, offsB_eq h4]
  | [], _ :: _, h => by simp [offsB] at h
  | _ :: _, [], h => by simp [offsB] at h
def tiCheck (P : Program) (t : TypeId) (ti : TI) : Bool :=
  (match P.info? t with
    | some i => Nat.beq i.size ti.cells && Nat.beq i.bytes ti.bytes && (match i.zero with
      | some z => valsB z.cells.toList ti.zero
      | none => false)
    | none => false) && Nat.beq ti.zero.length ti.cells && (aggB P t == ti.agg) &&
  (match P.underlying t with
    | some (.struct fs) => Nat.beq ti.kind 1 && offsB ti.offs (fs.toList.map fun f : Field => (f.offset, P.cellsOf f.type, aggB P f.type)) && fs.toList.all fun f : Field => (P.info? f.type).isSome && (P.underlying f.type).isSome
    | some (.array n e) => Nat.beq ti.kind 2 && offsB ti.offs [(n, P.cellsOf e, aggB P e)] && Nat.beq ti.elem e && (P.info? e).isSome && (P.underlying e).isSome
    | some (.slice e) => Nat.beq ti.kind 3 && Nat.beq ti.elem e
    | some .string => Nat.beq ti.kind 4
    | some .bool => Nat.beq ti.kind 5
    | some (.int k) => Nat.beq ti.kind 6 && (match ti.zero with
      | [.int k' _] => decide (k' = k)
      | _ => false)
    | some _ => Nat.beq ti.kind 0
    | none => false)
theorem cells_info {P : Program} {t : TypeId} (h : (P.info? t).isSome = true) : ∃ i, P.info? t = some i ∧ i.size = P.cellsOf t := by
  obtain ⟨i, hi⟩ := Option.isSome_iff_exists.1 h
  exact ⟨i, hi, by simp [Program.cellsOf, hi]⟩
theorem tiCheck_ok {P : Program} {t : TypeId} {ti : TI} (h : tiCheck P t ti = true) : TIok P t ti := by
  unfold tiCheck at h
  simp only [Bool.and_eq_true, beq_iff_eq] at h
  obtain ⟨⟨⟨h1, h2⟩, h3⟩, h4⟩ := h
  have hinfo : (∃ i z, P.info? t = some i ∧ i.size = ti.cells ∧ i.bytes = ti.bytes ∧ i.zero = some z ∧ z.cells = ti.zero.toArray) ∧ ∀ v ∈ ti.zero, one v = true := by
    split at h1
    · rename_i i hi
      simp only [Bool.and_eq_true] at h1
      obtain ⟨⟨h5, h6⟩, h7⟩ := h1
      split at h7
      · rename_i z hz
        obtain ⟨h8, h9⟩ := valsB_eq h7
        exact ⟨⟨i, z, hi, Nat.eq_of_beq_eq_true h5, Nat.eq_of_beq_eq_true h6, hz, by rw [← h8]⟩, h9⟩
      · cases h7
    · cases h1
  have kind : ∀ {k : Nat}, Nat.beq ti.kind k = true → ∀ j, ti.kind = j → j = k := fun h j e => by rw [← e]; exact Nat.eq_of_beq_eq_true h
  have hund : (P.underlying t).isSome = true := by
    cases hu : P.underlying t with
    | none => rw [hu] at h4; cases h4
    | some d => rfl
  split at h4
  · rename_i fs hu
    simp only [Bool.and_eq_true, List.all_eq_true] at h4
    obtain ⟨⟨hk, ho⟩, hf⟩ := h4
    have ho := offsB_eq ho
    refine ⟨hinfo.1, Nat.eq_of_beq_eq_true h2, hinfo.2, hund, h3, fun _ => ⟨fs, hu, fun j off size ag hj => ?_⟩, fun _ fs' hu' => ?_, fun e => (by have := kind hk _ e; omega), fun e => (by have := kind hk _ e; omega), fun e => (by have := kind hk _ e; omega), fun e => (by have := kind hk _ e; omega), fun e => (by have := kind hk _ e; omega)⟩
    · rw [ho] at hj
      simp only [List.getElem?_map, Option.map_eq_some_iff, Prod.mk.injEq] at hj
      obtain ⟨f, hf1, rfl, rfl, rfl⟩ := hj
      have hm : f ∈ fs.toList := List.mem_of_getElem? hf1
      exact ⟨f, by simpa using hf1, rfl, cells_info (hf f hm).1, (hf f hm).2, rfl⟩
    · rw [hu] at hu'; cases hu'
      exact ⟨ho, fun f hm => (hf f (by simpa using hm)).1⟩
  · rename_i n e hu
    simp only [Bool.and_eq_true] at h4
    obtain ⟨⟨⟨⟨hk, ho⟩, he⟩, hi⟩, hue⟩ := h4
    have ho := offsB_eq ho
    have he := Nat.eq_of_beq_eq_true he
    refine ⟨hinfo.1, Nat.eq_of_beq_eq_true h2, hinfo.2, hund, h3, fun e => (by have := kind hk _ e; omega), fun e => (by have := kind hk _ e; omega), fun _ len size ag hj => ?_, fun e => (by have := kind hk _ e; omega), fun e => (by have := kind hk _ e; omega), fun e => (by have := kind hk _ e; omega), fun e => (by have := kind hk _ e; omega)⟩
    rw [ho] at hj
    cases hj
    rw [he]
    exact ⟨hu, cells_info hi, hue, rfl⟩
  · rename_i e hu
    simp only [Bool.and_eq_true] at h4
    obtain ⟨hk, he⟩ := h4
    exact ⟨hinfo.1, Nat.eq_of_beq_eq_true h2, hinfo.2, hund, h3, fun e => (by have := kind hk _ e; omega), fun e => (by have := kind hk _ e; omega), fun e => (by have := kind hk _ e; omega), fun _ => by rw [Nat.eq_of_beq_eq_true he]; exact hu, fun e => (by have := kind hk _ e; omega), fun e => (by have := kind hk _ e; omega), fun e => (by have := kind hk _ e; omega)⟩
  · rename_i hu
    exact ⟨hinfo.1, Nat.eq_of_beq_eq_true h2, hinfo.2, hund, h3, fun e => (by have := kind h4 _ e; omega), fun e => (by have := kind h4 _ e; omega), fun e => (by have := kind h4 _ e; omega), fun e => (by have := kind h4 _ e; omega), fun _ => hu, fun e => (by have := kind h4 _ e; omega), fun e => (by have := kind h4 _ e; omega)⟩
  · rename_i hu
    exact ⟨hinfo.1, Nat.eq_of_beq_eq_true h2, hinfo.2, hund, h3, fun e => (by have := kind h4 _ e; omega), fun e => (by have := kind h4 _ e; omega), fun e => (by have := kind h4 _ e; omega), fun e => (by have := kind h4 _ e; omega), fun e => (by have := kind h4 _ e; omega), fun _ => hu, fun e => (by have := kind h4 _ e; omega)⟩
  · rename_i k hu
    simp only [Bool.and_eq_true] at h4
    obtain ⟨h4, h5⟩ := h4
    have hz : ∃ z, ti.zero = [.int k z] := by
      split at h5
      · rename_i k' z e; simp only [decide_eq_true_eq] at h5; subst h5; exact ⟨z, e⟩
      · cases h5
    obtain ⟨z, hz⟩ := hz
    exact ⟨hinfo.1, Nat.eq_of_beq_eq_true h2, hinfo.2, hund, h3, fun e => (by have := kind h4 _ e; omega), fun e => (by have := kind h4 _ e; omega), fun e => (by have := kind h4 _ e; omega), fun e => (by have := kind h4 _ e; omega), fun e => (by have := kind h4 _ e; omega), fun e => (by have := kind h4 _ e; omega), fun _ => ⟨k, z, hu, hz⟩⟩
  · exact ⟨hinfo.1, Nat.eq_of_beq_eq_true h2, hinfo.2, hund, h3, fun e => (by have := kind h4 _ e; omega), fun e => (by have := kind h4 _ e; omega), fun e => (by have := kind h4 _ e; omega), fun e => (by have := kind h4 _ e; omega), fun e => (by have := kind h4 _ e; omega), fun e => (by have := kind h4 _ e; omega), fun e => (by have := kind h4 _ e; omega)⟩
  · cases h4
/-- A table, by number. -/
def tbOf (l : List (Nat × TI)) (t : Nat) : Option TI :=
  match l with
  | [] => none
  | (u, ti) :: r => bif Nat.beq t u then some ti else tbOf r t
def tbCheck (P : Program) : List (Nat × TI) → Bool
  | [] => true
  | (t, ti) :: r => tiCheck P t ti && tbCheck P r
theorem tbCheck_ok {P : Program} : ∀ {l : List (Nat × TI)}, tbCheck P l = true → ∀ t ti, tbOf l t = some ti → TIok P t ti
  | [], _, t, ti, h => by cases h
  | (u, ui) :: r, hc, t, ti, h => by
    simp only [tbCheck, Bool.and_eq_true] at hc
    simp only [tbOf] at h
    by_cases e : t = u
    · subst e
      simp only [beq_self, cond_true, Option.some.injEq] at h
      subst h
      exact tiCheck_ok hc.1
    · rw [beq_ne e] at h
      exact tbCheck_ok hc.2 t ti h
end Go.Proofs.YtgdcefohfebleaaDoor.V
/- T1 -/
namespace Go.Proofs.YtgdcefohfebleaaDoor.V
open Go
def tbl : List (Nat × TI) := [
  (1, ⟨0, 1, false, [Value.nilFunc], 8, [], 0⟩),
  (2, ⟨6, 1, false, [Value.int .i64 0], 8, [], 0⟩),
  (3, ⟨6, 1, false, [Value.int .i64 0], 8, [], 0⟩),
  (4, ⟨5, 1, false, [Value.bool false], 1, [], 0⟩),
  (5, ⟨6, 1, false, [Value.int .u8 0], 1, [], 0⟩),
  (6, ⟨6, 1, false, [Value.int .u8 0], 1, [], 0⟩),
  (7, ⟨1, 4, true, [Value.int .i64 0, Value.int .i64 0, Value.bool false, Value.int .u8 0], 24, [(0, 1, false), (1, 1, false), (2, 1, false), (3, 1, false)], 0⟩),
  (8, ⟨1, 4, true, [Value.int .i64 0, Value.int .i64 0, Value.bool false, Value.int .u8 0], 24, [(0, 1, false), (1, 1, false), (2, 1, false), (3, 1, false)], 0⟩),
  (9, ⟨4, 1, false, [Value.string ⟨#[]⟩], 16, [], 0⟩),
  (10, ⟨4, 1, false, [Value.string ⟨#[]⟩], 16, [], 0⟩),
  (11, ⟨4, 1, false, [Value.string ⟨#[]⟩], 16, [], 0⟩),
  (12, ⟨6, 1, false, [Value.int .u64 0], 8, [], 0⟩),
  (13, ⟨1, 2, true, [Value.string ⟨#[]⟩, Value.int .u64 0], 24, [(0, 1, false), (1, 1, false)], 0⟩),
  (14, ⟨1, 2, true, [Value.string ⟨#[]⟩, Value.int .u64 0], 24, [(0, 1, false), (1, 1, false)], 0⟩),
  (15, ⟨0, 1, false, [Value.pointer none], 8, [], 0⟩),
  (16, ⟨0, 1, false, [Value.pointer none], 8, [], 0⟩),
  (17, ⟨0, 1, false, [Value.pointer none], 8, [], 0⟩),
  (18, ⟨1, 1, true, [Value.pointer none], 8, [(0, 1, false)], 0⟩),
  (19, ⟨1, 1, true, [Value.pointer none], 8, [(0, 1, false)], 0⟩),
  (20, ⟨0, 1, false, [Value.nilIface], 16, [], 0⟩),
  (21, ⟨6, 1, false, [Value.int .i32 0], 4, [], 0⟩),
  (22, ⟨3, 1, false, [Value.slice none 0 0], 24, [], 28⟩),
  (23, ⟨3, 1, false, [Value.slice none 0 0], 24, [], 42⟩),
  (24, ⟨1, 2, true, [Value.slice none 0 0, Value.slice none 0 0], 48, [(0, 1, false), (1, 1, false)], 0⟩),
  (25, ⟨1, 2, true, [Value.slice none 0 0, Value.slice none 0 0], 48, [(0, 1, false), (1, 1, false)], 0⟩),
  (26, ⟨3, 1, false, [Value.slice none 0 0], 24, [], 40⟩),
  (27, ⟨1, 5, true, [Value.string ⟨#[]⟩, Value.int .i64 0, Value.int .i64 0, Value.slice none 0 0, Value.int .i64 0], 64, [(0, 1, false), (1, 1, false), (2, 1, false), (3, 1, false), (4, 1, false)], 0⟩),
  (28, ⟨1, 5, true, [Value.string ⟨#[]⟩, Value.int .i64 0, Value.int .i64 0, Value.slice none 0 0, Value.int .i64 0], 64, [(0, 1, false), (1, 1, false), (2, 1, false), (3, 1, false), (4, 1, false)], 0⟩),
  (29, ⟨0, 1, false, [Value.nilFunc], 8, [], 0⟩),
  (30, ⟨0, 1, false, [Value.nilFunc], 8, [], 0⟩),
  (31, ⟨0, 1, false, [Value.nilFunc], 8, [], 0⟩),
  (32, ⟨6, 1, false, [Value.int .i64 0], 8, [], 0⟩),
  (34, ⟨0, 1, false, [Value.nilFunc], 8, [], 0⟩),
  (35, ⟨0, 1, false, [Value.nilFunc], 8, [], 0⟩),
  (37, ⟨0, 1, false, [Value.nilFunc], 8, [], 0⟩),
  (38, ⟨0, 1, false, [Value.nilFunc], 8, [], 0⟩),
  (39, ⟨0, 1, false, [Value.nilFunc], 8, [], 0⟩),
  (40, ⟨3, 1, false, [Value.slice none 0 0], 24, [], 3⟩),
  (41, ⟨1, 5, true, [Value.string ⟨#[]⟩, Value.int .i64 0, Value.int .i64 0, Value.int .i64 0, Value.int .i64 0], 48, [(0, 1, false), (1, 1, false), (2, 1, false), (3, 1, false), (4, 1, false)], 0⟩),
  (42, ⟨1, 5, true, [Value.string ⟨#[]⟩, Value.int .i64 0, Value.int .i64 0, Value.int .i64 0, Value.int .i64 0], 48, [(0, 1, false), (1, 1, false), (2, 1, false), (3, 1, false), (4, 1, false)], 0⟩),
  (44, ⟨0, 1, false, [Value.nilFunc], 8, [], 0⟩),
  (45, ⟨3, 1, false, [Value.slice none 0 0], 24, [], 4⟩),
  (46, ⟨0, 1, false, [Value.nilFunc], 8, [], 0⟩),
  (47, ⟨0, 1, false, [Value.nilFunc], 8, [], 0⟩),
  (48, ⟨0, 1, false, [Value.nilFunc], 8, [], 0⟩),
  (49, ⟨0, 1, false, [Value.nilFunc], 8, [], 0⟩),
  (50, ⟨0, 1, false, [Value.nilFunc], 8, [], 0⟩),
  (51, ⟨0, 1, false, [Value.nilFunc], 8, [], 0⟩),
  (52, ⟨0, 1, false, [Value.nilFunc], 8, [], 0⟩),
  (53, ⟨0, 1, false, [Value.nilFunc], 8, [], 0⟩),
  (54, ⟨0, 1, false, [Value.nilFunc], 8, [], 0⟩),
  (55, ⟨3, 1, false, [Value.slice none 0 0], 24, [], 60⟩),
  (56, ⟨0, 1, false, [Value.nilFunc], 8, [], 0⟩),
  (57, ⟨1, 2, true, [Value.int .i64 0, Value.int .i64 0], 16, [(0, 1, false), (1, 1, false)], 0⟩),
  (58, ⟨1, 2, true, [Value.int .i64 0, Value.int .i64 0], 16, [(0, 1, false), (1, 1, false)], 0⟩),
  (59, ⟨1, 4, true, [Value.int .i64 0, Value.int .i64 0, Value.int .i64 0, Value.int .i64 0], 32, [(0, 2, true), (2, 1, false), (3, 1, false)], 0⟩),
  (60, ⟨1, 4, true, [Value.int .i64 0, Value.int .i64 0, Value.int .i64 0, Value.int .i64 0], 32, [(0, 2, true), (2, 1, false), (3, 1, false)], 0⟩),
  (61, ⟨0, 1, false, [Value.nilFunc], 8, [], 0⟩),
  (62, ⟨0, 1, false, [Value.nilFunc], 8, [], 0⟩),
  (63, ⟨0, 1, false, [Value.nilFunc], 8, [], 0⟩),
  (64, ⟨0, 1, false, [Value.nilFunc], 8, [], 0⟩),
  (65, ⟨0, 1, false, [Value.nilFunc], 8, [], 0⟩),
  (66, ⟨0, 1, false, [Value.nilFunc], 8, [], 0⟩),
  (67, ⟨0, 1, false, [Value.nilFunc], 8, [], 0⟩),
  (68, ⟨0, 1, false, [Value.nilFunc], 8, [], 0⟩),
  (69, ⟨0, 1, false, [Value.nilFunc], 8, [], 0⟩),
  (70, ⟨0, 1, false, [Value.nilFunc], 8, [], 0⟩),
  (71, ⟨0, 1, false, [Value.nilFunc], 8, [], 0⟩),
  (72, ⟨0, 1, false, [Value.nilFunc], 8, [], 0⟩),
  (73, ⟨0, 1, false, [Value.nilFunc], 8, [], 0⟩),
  (74, ⟨0, 1, false, [Value.pointer none], 8, [], 0⟩),
  (76, ⟨0, 1, false, [Value.nilFunc], 8, [], 0⟩),
  (77, ⟨0, 1, false, [Value.nilFunc], 8, [], 0⟩),
  (78, ⟨0, 1, false, [Value.nilFunc], 8, [], 0⟩),
  (79, ⟨0, 1, false, [Value.nilFunc], 8, [], 0⟩),
  (80, ⟨0, 1, false, [Value.nilFunc], 8, [], 0⟩),
  (81, ⟨0, 1, false, [Value.nilFunc], 8, [], 0⟩),
  (82, ⟨0, 1, false, [Value.nilFunc], 8, [], 0⟩),
  (83, ⟨0, 1, false, [Value.nilFunc], 8, [], 0⟩),
  (84, ⟨0, 1, false, [Value.nilFunc], 8, [], 0⟩),
  (85, ⟨0, 1, false, [Value.nilFunc], 8, [], 0⟩),
  (86, ⟨0, 1, false, [Value.nilFunc], 8, [], 0⟩),
  (87, ⟨0, 1, false, [Value.nilFunc], 8, [], 0⟩),
  (88, ⟨0, 1, false, [Value.nilFunc], 8, [], 0⟩),
  (89, ⟨1, 1, true, [Value.nilFunc], 8, [(0, 1, false)], 0⟩),
  (90, ⟨1, 1, true, [Value.nilFunc], 8, [(0, 1, false)], 0⟩),
  (91, ⟨0, 1, false, [Value.nilFunc], 8, [], 0⟩),
  (92, ⟨0, 1, false, [Value.nilFunc], 8, [], 0⟩),
  (93, ⟨0, 1, false, [Value.nilFunc], 8, [], 0⟩),
  (94, ⟨0, 1, false, [Value.nilFunc], 8, [], 0⟩),
  (95, ⟨0, 1, false, [Value.nilFunc], 8, [], 0⟩),
  (96, ⟨0, 1, false, [Value.nilFunc], 8, [], 0⟩),
  (97, ⟨0, 1, false, [Value.nilFunc], 8, [], 0⟩),
  (98, ⟨0, 1, false, [Value.nilFunc], 8, [], 0⟩),
  (99, ⟨0, 1, false, [Value.nilFunc], 8, [], 0⟩),
  (100, ⟨0, 1, false, [Value.nilFunc], 8, [], 0⟩),
  (101, ⟨0, 1, false, [Value.nilFunc], 8, [], 0⟩),
  (102, ⟨0, 1, false, [Value.nilFunc], 8, [], 0⟩),
  (103, ⟨1, 4, true, [Value.int .i64 0, Value.int .i64 0, Value.int .i64 0, Value.slice none 0 0], 48, [(0, 1, false), (1, 1, false), (2, 1, false), (3, 1, false)], 0⟩),
  (104, ⟨1, 4, true, [Value.int .i64 0, Value.int .i64 0, Value.int .i64 0, Value.slice none 0 0], 48, [(0, 1, false), (1, 1, false), (2, 1, false), (3, 1, false)], 0⟩),
  (106, ⟨0, 1, false, [Value.nilFunc], 8, [], 0⟩),
  (107, ⟨0, 1, false, [Value.nilFunc], 8, [], 0⟩),
  (108, ⟨0, 1, false, [Value.nilFunc], 8, [], 0⟩),
  (109, ⟨0, 1, false, [Value.nilFunc], 8, [], 0⟩),
  (110, ⟨0, 1, false, [Value.nilFunc], 8, [], 0⟩),
  (112, ⟨0, 1, false, [Value.nilFunc], 8, [], 0⟩),
  (113, ⟨0, 1, false, [Value.nilFunc], 8, [], 0⟩),
  (114, ⟨0, 1, false, [Value.nilFunc], 8, [], 0⟩),
  (115, ⟨0, 1, false, [Value.nilFunc], 8, [], 0⟩),
  (116, ⟨0, 1, false, [Value.nilFunc], 8, [], 0⟩),
  (117, ⟨0, 1, false, [Value.nilFunc], 8, [], 0⟩),
  (118, ⟨0, 1, false, [Value.nilFunc], 8, [], 0⟩),
  (119, ⟨6, 1, false, [Value.int .u64 0], 8, [], 0⟩),
  (121, ⟨0, 1, false, [Value.nilFunc], 8, [], 0⟩),
  (122, ⟨0, 1, false, [Value.nilFunc], 8, [], 0⟩),
  (123, ⟨0, 1, false, [Value.nilFunc], 8, [], 0⟩),
  (124, ⟨0, 1, false, [Value.nilFunc], 8, [], 0⟩),
  (125, ⟨0, 1, false, [Value.nilFunc], 8, [], 0⟩),
  (126, ⟨0, 1, false, [Value.nilFunc], 8, [], 0⟩),
  (127, ⟨0, 1, false, [Value.nilFunc], 8, [], 0⟩),
  (128, ⟨0, 1, false, [Value.nilFunc], 8, [], 0⟩),
  (129, ⟨0, 1, false, [Value.nilFunc], 8, [], 0⟩),
  (130, ⟨0, 1, false, [Value.nilFunc], 8, [], 0⟩),
  (131, ⟨0, 1, false, [Value.nilFunc], 8, [], 0⟩),
  (132, ⟨0, 1, false, [Value.nilFunc], 8, [], 0⟩),
  (133, ⟨0, 1, false, [Value.nilFunc], 8, [], 0⟩),
  (134, ⟨6, 1, false, [Value.int .u32 0], 4, [], 0⟩),
  (136, ⟨0, 1, false, [Value.nilFunc], 8, [], 0⟩),
  (137, ⟨6, 1, false, [Value.int .u64 0], 8, [], 0⟩),
  (139, ⟨0, 1, false, [Value.nilFunc], 8, [], 0⟩),
  (140, ⟨0, 1, false, [Value.nilFunc], 8, [], 0⟩),
  (141, ⟨0, 1, false, [Value.nilFunc], 8, [], 0⟩),
  (142, ⟨0, 1, false, [Value.nilFunc], 8, [], 0⟩),
  (143, ⟨0, 1, false, [Value.nilFunc], 8, [], 0⟩),
  (144, ⟨0, 1, false, [Value.nilFunc], 8, [], 0⟩),
  (145, ⟨0, 1, false, [Value.nilFunc], 8, [], 0⟩),
  (146, ⟨0, 1, false, [Value.nilFunc], 8, [], 0⟩),
  (147, ⟨0, 1, false, [Value.nilFunc], 8, [], 0⟩),
  (148, ⟨0, 1, false, [Value.nilFunc], 8, [], 0⟩),
  (149, ⟨0, 1, false, [Value.nilFunc], 8, [], 0⟩),
  (150, ⟨0, 1, false, [Value.nilFunc], 8, [], 0⟩),
  (151, ⟨0, 1, false, [Value.nilFunc], 8, [], 0⟩),
  (152, ⟨0, 1, false, [Value.nilFunc], 8, [], 0⟩),
  (153, ⟨0, 1, false, [Value.nilFunc], 8, [], 0⟩),
  (154, ⟨1, 2, true, [Value.int .i64 0, Value.int .i64 0], 16, [(0, 1, false), (1, 1, false)], 0⟩),
  (155, ⟨1, 2, true, [Value.int .i64 0, Value.int .i64 0], 16, [(0, 1, false), (1, 1, false)], 0⟩),
  (156, ⟨2, 4, true, [Value.int .i64 0, Value.int .i64 0, Value.int .i64 0, Value.int .i64 0], 32, [(2, 2, true)], 155⟩),
  (157, ⟨0, 1, false, [Value.nilFunc], 8, [], 0⟩),
  (163, ⟨0, 1, false, [Value.nilFunc], 8, [], 0⟩),
  (164, ⟨6, 1, false, [Value.int .u8 0], 1, [], 0⟩),
  (165, ⟨6, 1, false, [Value.int .u8 0], 1, [], 0⟩),
  (166, ⟨0, 1, false, [Value.nilFunc], 8, [], 0⟩),
  (167, ⟨0, 1, false, [Value.pointer none], 8, [], 0⟩),
  (168, ⟨6, 1, false, [Value.int .i32 0], 4, [], 0⟩),
  (169, ⟨6, 1, false, [Value.int .i32 0], 4, [], 0⟩),
  (172, ⟨0, 1, false, [Value.pointer none], 8, [], 0⟩)]


set_option maxRecDepth 100000
theorem tbl_ok : tbCheck Tryd.prog tbl = true := by kernel_rfl
end Go.Proofs.YtgdcefohfebleaaDoor.V
/- A round of a loop over a function does what vcR shows. -/
set_option linter.unusedVariables false
set_option linter.unusedSimpArgs false
set_option linter.unusedSectionVars false
namespace Go.Proofs.YtgdcefohfebleaaDoor.V
open Go Go.RowKit

/-- where a round ends: by none, or by a jump -/
def rdQ (k : Nat) (hs ks : List Nat) (post : MM → AV → Prop) (e : Ex) (tm : TM) (mm : MM) : Prop :=
  getK k mm fun x => match x with
    | .lp r => match e with
      | .normal => setK k (.lp { r with state := .ready, pending := none }) mm fun mm => expK hs ks mm (.d (.v (.bool true))) post
      | .ret => setK k (.lp { r with state := .done, pending := some .ret }) mm fun mm => expK hs ks mm (.d (.v (.bool false))) post
      | .exit i => setK k (.lp { r with state := .done, pending := some (.exit i) }) mm fun mm => expK hs ks mm (.d (.v (.bool false))) post
    | _ => False
/-- behind the assignment to the loop's variable -/
def rdA (cx : Cx) (k : Nat) (body : Code) (Q : Ex → TM → MM → Prop) (e : Ex) (tm : TM) (mm : MM) : Prop :=
  match e with
  | .normal => getK k mm fun x => match x with
    | .lp r => Ob (r.state = .ready) ∧ setK k (.lp { r with state := .busy }) mm fun mm => vc cx body Q tm mm
    | _ => False
  | _ => False
def vcR (cx : Cx) (k p : Nat) (rec : Loop) (x : AV) (ycaps : List AV) (mm0 : MM) (ks : List Nat) (post : MM → AV → Prop) : Prop :=
  bif Nat.beq (lenL ycaps) cx.nt && Nat.blt p cx.nt && (inL k (keys mm0) && (allGe hk (keys mm0) && nodupB (keys mm0) && (allLt hk ks && nodupB ks))) then
    entT 0 ycaps fun tm => vc cx rec.assign (rdA cx k rec.body (rdQ k (keys mm0) ks post)) ((p, x) :: tm) mm0 else False

section
variable {P : Program} {cx : Cx} {W0 : World} {ok0 S0 : Nat → Prop} {β0 : Nat → Ent} {tm : TM} {mm : MM} {β : Nat → Ent} {a : Act} {w : World}
/-- The record turns. -/
theorem SRep.setLp (h : SRep cx W0 ok0 S0 β0 tm mm β a w) {k : Nat} {r : Loop} (hr : lkM k mm = .lp r) (r' : Loop) :
    w.heap[(β k).blk]? = some (.loop r) ∧ SRep cx W0 ok0 S0 β0 tm (setM k (.lp r') mm) β a (w.putObj (β k).blk (.loop r')) := by
  have hheap : w.heap[(β k).blk]? = some (.loop r) := by
    have := h.me k
    rw [hr] at this
    exact this
  have hlv : live mm β k := by unfold live; rw [hr]; trivial
  have hlt := (Array.getElem?_eq_some_iff.1 hheap).1
  exact ⟨hheap, h.write hlv (.lp r') _ rfl rfl rfl (by simp) (fun b hb => World.putObj_heap_other hb) (by rw [live_set, if_pos rfl]; trivial) (fun ok' _ => World.putObj_heap_same hlt)⟩
theorem ydoes_of (ht : Tok P cx) (hs : Sok P cx) {k p : Nat} {T : List Value} {x : AV} {ycaps : List AV} {mm0 : MM} {rec : Loop} (hk : lkM k mm0 = .lp rec) (hT : rec.tmps = T.toArray) (hp : rec.params = #[p])
    (h1 : rdOk rec.assign = true) (h2 : rdOk rec.body = true) {ks : List Nat} {post : MM → AV → Prop} (hv : vcR cx k p rec x ycaps mm0 ks post) : YDoes P cx.gl [.yl k T ycaps, x] mm0 post := by
  unfold vcR at hv
  cases hb : (Nat.beq (lenL ycaps) cx.nt && Nat.blt p cx.nt && (inL k (keys mm0) && (allGe V.hk (keys mm0) && nodupB (keys mm0) && (allLt V.hk ks && nodupB ks)))) with
  | false => simp only [hb, cond_false] at hv
  | true =>
  simp only [hb, cond_true] at hv
  simp only [Bool.and_eq_true] at hb
  obtain ⟨⟨hb1, hb0⟩, hbk, ⟨hb2, hb3⟩, hb4, hb5⟩ := hb
  rw [entT_eq] at hv
  intro W β ok0 L v hgl hms hargs
  obtain ⟨y, rest, e, ⟨hL, hyc⟩, hargs⟩ := hargs
  obtain ⟨rfl, rfl⟩ := List.cons.inj e
  obtain ⟨v', rest, e, hx, hrest⟩ := hargs
  obtain ⟨rfl, rfl⟩ := List.cons.inj e
  obtain rfl : L = (β k).blk := by simpa using hL
  have hlen : T.length = cx.nt := by rw [reps_len _ hyc, ← lenL_eq]; exact Nat.eq_of_beq_eq_true hb1
  have hpn : p < cx.nt := by simpa [Nat.blt_eq] using hb0
  have hkge : V.hk ≤ k := allGe_iff _ _ hb2 k ((inL_iff k _).1 hbk)
  have hc : Cok P cx W ok0 (S0of mm0 β) := ⟨ht.tb, ht.eqa, fun g m f hg => by
    obtain ⟨h1, h2, h3⟩ := hgl g m f hg
    exact ⟨h1, h2.1, h2.2, h3⟩⟩
  have h0 : SRep cx W ok0 (S0of mm0 β) β (ent 0 ycaps) mm0 β { tmps := T.toArray, defers := [] } W := {
    nt := by simpa using hlen
    df := Marks.nil _ _
    tm := fun t => by
      rcases ent_ok ycaps 0 t hyc with ⟨h1, _⟩ | ⟨_, v, h1, h2⟩
      · rw [h1]; trivial
      · have : T.toArray.getD t undef = v := by
          rw [Array.getD_eq_getD_getElem?, List.getElem?_toArray]
          rw [Nat.sub_zero] at h1
          rw [h1]; rfl
        simp only [this]
        exact h2
    me := hms.me, inj := hms.inj, ow := hms.ow, fr := hms.fr, fx := hms.fx }
  have h0 := h0.put (v := v) hpn hx
  have hheap : W.heap[(β k).blk]? = some (.loop rec) := by
    have := hms.me k
    rw [hk] at this
    exact this
  have hy := run_yield (P := P) (args := #[v]) hheap (by rw [hp]; rfl)
  refine ⟨_, _, _, _, hy, roundIn_of_wpIn trivial ?_⟩
  have htmps : (rec.params.zip #[v]).foldl (fun tmps (t, a) => tmps.setIfInBounds t a) rec.tmps = T.toArray.setIfInBounds p v := by
    rw [hp, hT]; simp
  rw [htmps]
  have fin : ∀ (jump : Option Code) (b : Bool) (w : World) (a : Act) (tm : TM) (mm : MM) (β' : Nat → Ent) (r : Loop), SRep cx W ok0 (S0of mm0 β) β tm mm β' a w → lkM k mm = .lp r → b = jump.isNone →
      expK (keys mm0) ks (setM k (.lp { r with state := if jump.isNone then .ready else .done, pending := jump }) mm) (.d (.v (.bool b))) post →
      ∃ v w', (Instr.endRound (β k).blk jump).run P w = .ok v w' ∧ ∃ mm' β' r, post mm' r ∧ MS W ok0 (S0of mm0 β) β mm' β' w' ∧ r.rep w' (okB W ok0 (S0of mm0 β) mm' β' w') β' v := by
    intro jump b w a tm mm β' r h hr hbj hk
    have hβ : β' k = β k := h.fx k hkge
    obtain ⟨h1, h2⟩ := h.setLp hr { r with state := if jump.isNone then .ready else .done, pending := jump }
    rw [hβ] at h1 h2
    obtain ⟨mm2, β2, r2, h3, h4, h5⟩ := expK_ok hk h2.ms (allGe_iff _ _ hb2) (nodupB_iff _ hb3) (allLt_iff _ _ hb4) (nodupB_iff _ hb5) (v := .bool jump.isNone) (by rw [hbj]; rfl)
    exact ⟨_, _, run_endRound jump h1, mm2, β2, r2, h3, h4, h5⟩
  refine wpm (r := some (β k).blk) (fun e a1 w1 hq => ?_) (vc_sound ht.mix hc hs (some (β k).blk) 0 rec.assign (.inr h1) _ h0 hv)
  cases e with
  | exit i => obtain ⟨tm, mm, β', h, hk⟩ := hq; exact hk.elim
  | ret => obtain ⟨tm, mm, β', h, hk⟩ := hq; exact hk.elim
  | goto _ => exact hq.elim
  | panic _ => exact hq.elim
  | outgrown => exact hq.elim
  | normal =>
    obtain ⟨tm, mm, β', h, hq⟩ := hq
    simp only [rdA, getK_eq] at hq
    split at hq
    case h_2 => exact hq.elim
    rename_i r hr
    obtain ⟨⟨hrdy⟩, hq⟩ := hq
    rw [setK_eq] at hq
    have hβ : β' k = β k := h.fx k hkge
    obtain ⟨h3, h4⟩ := h.setLp hr { r with state := .busy }
    rw [hβ] at h3 h4
    refine ⟨_, run_beginRound h3 hrdy, ?_⟩
    refine wpm (r := some (β k).blk) (fun e a2 w2 hq => ?_) (vc_sound ht.mix hc hs (some (β k).blk) 0 rec.body (.inr h2) _ h4 hq)
    cases e with
    | goto _ => exact hq.elim
    | panic _ => exact hq.elim
    | outgrown => exact hq.elim
    | normal =>
      obtain ⟨tm, mm, β', h, hq⟩ := hq
      simp only [rdQ, getK_eq] at hq
      split at hq
      case h_2 => exact hq.elim
      rename_i r hr
      rw [setK_eq] at hq
      exact fin none true w2 a2 tm mm β' r h hr rfl hq
    | ret =>
      obtain ⟨tm, mm, β', h, hq⟩ := hq
      simp only [rdQ, getK_eq] at hq
      split at hq
      case h_2 => exact hq.elim
      rename_i r hr
      rw [setK_eq] at hq
      exact fin (some .ret) false w2 a2 tm mm β' r h hr rfl hq
    | exit i =>
      obtain ⟨tm, mm, β', h, hq⟩ := hq
      simp only [rdQ, getK_eq] at hq
      split at hq
      case h_2 => exact hq.elim
      rename_i r hr
      rw [setK_eq] at hq
      exact fin (some (.exit i)) false w2 a2 tm mm β' r h hr rfl hq
end
end Go.Proofs.YtgdcefohfebleaaDoor.V
/- What the program's functions do: the frame of the proofs. -/
set_option linter.unusedVariables false
set_option linter.unusedSimpArgs false
namespace Go.Proofs.YtgdcefohfebleaaDoor.V
open Go Go.Proofs

theorem mix_ok : Tryd.prog.follows .mixedOrders = true := by kernel_rfl
noncomputable abbrev P0 : Program := Tryd.prog
def spOf (l : List (Nat × SpecE)) (g : Nat) : Option SpecE :=
  match l with
  | [] => none
  | (u, s) :: r => bif Nat.beq g u then some s else spOf r g
abbrev GL := Nat → Option (Nat × (Nat → DV))
def SpsOk (gl : GL) (l : List (Nat × SpecE)) : Prop := ∀ g s, spOf l g = some s → Fn P0 g ∧ Meets P0 gl g s
theorem SpsOk.nil (gl : GL) : SpsOk gl [] := fun g s h => by cases h
theorem SpsOk.cons {gl : GL} {l : List (Nat × SpecE)} (h : SpsOk gl l) {g : Nat} {s : SpecE} (hf : Fn P0 g) (hm : Meets P0 gl g s) : SpsOk gl ((g, s) :: l) := fun g' s' h' => by
  simp only [spOf] at h'
  by_cases e : g' = g
  · subst e; simp only [beq_self, cond_true, Option.some.injEq] at h'; subst h'; exact ⟨hf, hm⟩
  · rw [beq_ne e] at h'; exact h g' s' h'
/-- What an annotation gives beside the types and the functions. -/
structure An where
  ann : Nat → Option LAnn := fun _ => none
  plan : Nat → Option Plan := fun _ => none
  wm : Nat → Bool := fun _ => false
  nk : Nat → List Nat := fun _ => []
  fs : Nat → Option (FuncId × SpecE) := fun _ => none
  rf : Option (Nat × List Nat) := none
  cm : Nat → Bool := fun _ => false
def mk (gl : GL) (eqt : TypeId → Bool) (sps : List (Nat × SpecE)) (nt : Nat) (an : An) : Cx :=
  { nt := nt, tb := tbOf tbl, ann := an.ann, sp := spOf sps, fs := an.fs, gl := gl, wm := an.wm, eqt := eqt, nk := an.nk, plan := an.plan, rf := an.rf, cm := an.cm }
def EqtOk (eqt : TypeId → Bool) : Prop := ∀ t ti, eqt t = true → tbOf tbl t = some ti → EqAgg P0 t ti.zero
def noEq : TypeId → Bool := fun _ => false
theorem noEq_ok : EqtOk noEq := fun t ti h => by cases h
/-- A call's condition, shown by vcF. -/
theorem does_mk {gl : GL} {eqt : TypeId → Bool} (he : EqtOk eqt) {sps : List (Nat × SpecE)} (hs : SpsOk gl sps) {g : FuncId} {fn : Func} (hf : P0.funcs[g]? = some fn) (an : An) (hfs : ∀ i g s, an.fs i = some (g, s) → Fn P0 g ∧ Meets P0 gl g s)
    {args : List AV} {mm0 : MM} (ks : List Nat) {post : MM → AV → Prop} (hv : vcF (mk gl eqt sps fn.ntmps an) fn args mm0 ks post) : Does P0 gl g args mm0 post :=
  does_of (cx := mk gl eqt sps fn.ntmps an) hf rfl ⟨mix_ok, tbCheck_ok tbl_ok, he⟩ ⟨hs, hfs, fun C h => nomatch h⟩ hv
/-- The same where yield is called. -/
theorem does_mkY {gl : GL} {eqt : TypeId → Bool} (he : EqtOk eqt) {sps : List (Nat × SpecE)} (hs : SpsOk gl sps) {g : FuncId} {fn : Func} (hf : P0.funcs[g]? = some fn) (an : An) (hfs : ∀ i g s, an.fs i = some (g, s) → Fn P0 g ∧ Meets P0 gl g s)
    (C : List AV → MM → (MM → AV → Prop) → Prop) (hC : YMeets P0 gl C)
    {args : List AV} {mm0 : MM} (ks : List Nat) {post : MM → AV → Prop} (hv : vcF { mk gl eqt sps fn.ntmps an with ys := some C } fn args mm0 ks post) : Does P0 gl g args mm0 post :=
  does_of (cx := { mk gl eqt sps fn.ntmps an with ys := some C }) hf rfl ⟨mix_ok, tbCheck_ok tbl_ok, he⟩ ⟨hs, hfs, fun C' h => by cases h; exact hC⟩ hv
/-- A round. -/
theorem ydoes_mk {gl : GL} {eqt : TypeId → Bool} (he : EqtOk eqt) {sps : List (Nat × SpecE)} (hs : SpsOk gl sps) (nt : Nat) (an : An) (hfs : ∀ i g s, an.fs i = some (g, s) → Fn P0 g ∧ Meets P0 gl g s)
    {k p : Nat} {T : List Value} {x : AV} {ycaps : List AV} {mm0 : MM} {rec : Loop} (hk : lkM k mm0 = .lp rec) (hT : rec.tmps = T.toArray) (hp : rec.params = #[p])
    (h1 : rdOk rec.assign = true) (h2 : rdOk rec.body = true) (ks : List Nat) {post : MM → AV → Prop} (hv : vcR (mk gl eqt sps nt an) k p rec x ycaps mm0 ks post) : YDoes P0 gl [.yl k T ycaps, x] mm0 post :=
  ydoes_of (cx := mk gl eqt sps nt an) ⟨mix_ok, tbCheck_ok tbl_ok, he⟩ ⟨hs, hfs, fun C h => nomatch h⟩ hk hT hp h1 h2 hv
theorem Does.mono {gl : GL} {g : FuncId} {args : List AV} {mm0 : MM} {post post' : MM → AV → Prop} (h : Does P0 gl g args mm0 post) (hp : ∀ mm r, post mm r → post' mm r) : Does P0 gl g args mm0 post' := by
  intro W β ok0 vs h1 h2 h3
  refine Calls.mono (h W β ok0 vs h1 h2 h3) fun e w' he => ?_
  cases e with
  | returned v => obtain ⟨mm', β', r, hq, h4⟩ := he; exact ⟨mm', β', r, hp _ _ hq, h4⟩
  | panicked _ => exact he.elim
  | outgrown => exact he.elim
end Go.Proofs.YtgdcefohfebleaaDoor.V
/- health.Have -/
set_option linter.unusedVariables false
set_option linter.unusedSimpArgs false
namespace Go.Proofs.YtgdcefohfebleaaDoor.V
open Go Go.Proofs

def haveF (l : List Int) : List Bool := l.map fun x => decide (x = 1)
def haveB (l : List Int) (i : Nat) : List Bool := (l.take i).map (fun x => decide (x = 1)) ++ List.replicate (l.length - i) false
def haveAn (l : List Int) : An := { ann := fun k => bif Nat.beq k 3 then some { ι := Nat, nils := [], vars := fun i => [(11, .d (.v (.int .i64 (i : Int))))], mem := fun i => [(8, .row 4 (.bools (haveB l i)))], inv := fun i => i ≤ l.length, init := 0, meas := fun i => l.length - i } else none }
theorem haveB_step (l : List Int) (i : Nat) (h : i < l.length) : (haveB l i).set i (decide (l.getD i 0 = 1)) = haveB l (i + 1) := by
  have h1 : ((l.take i).map (fun x => decide (x = 1))).length = i := by simp; omega
  unfold haveB
  rw [List.set_append_right _ _ (by omega), h1, Nat.sub_self]
  rw [show l.length - i = (l.length - (i + 1)) + 1 by omega, List.replicate_succ, List.set_cons_zero]
  rw [List.take_succ_eq_append_getElem h, List.map_append, List.append_assoc]
  simp [List.getD_eq_getElem?_getD, h]
theorem haveB_all (l : List Int) : haveB l l.length = haveF l := by simp [haveB, haveF]
def haveC : List AV → (MM → AV → Prop) → Prop
  | [.d (.ints .i64 l)], K => l.length ≤ 1000 ∧ ∀ B n, B = haveF l → n = l.length → K [(0, .row 4 (.bools B))] (.own 0 n)
  | _, _ => False
theorem have_vc (gl : GL) (eqt : TypeId → Bool) (sps : List (Nat × SpecE)) (l : List Int) (hl : l.length ≤ 1000) (K : MM → AV → Prop) (hK : ∀ B n, B = haveF l → n = l.length → K [(0, .row 4 (.bools B))] (.own 0 n)) :
    vcF (mk gl eqt sps Tryd.f27.ntmps (haveAn l)) Tryd.f27 [.d (.ints .i64 l)] [] [8] K := by
  repeat' (first | refine And.intro ?_ ?_ | intro _ | (refine brK_id ?_; first | with_reducible refine brK_t ?_ | with_reducible refine brK_f ?_ | with_reducible refine brK_dec ?_ ?_ | with_reducible refine brK_ndec ?_ ?_ | refine brK_of ?_ ?_) | exact True.intro | refine Exists.intro (Nat.succ (by assumption)) ?_ | refine hK _ _ ?_ ?_)
  all_goals (try (refine ⟨?_⟩))
  all_goals (try rfl)
  all_goals (try simp only [maxBytes, decide_eq_true_eq, decide_eq_false_iff_not, in64, Int.toNat_natCast] at *)
  all_goals (try omega)
  · rename_i i h1 h2
    have h3 : i < l.length := by omega
    simp [DV.len, haveB]; omega
  · rename_i i h1 h2
    exact haveB_step l i (by omega)
  · rename_i i h1 h2
    rw [← haveB_all, show i = l.length by omega]
theorem have_fn : Fn P0 27 := ⟨Tryd.f27, Tryd.func27, by decide, rfl⟩
theorem have_ok (gl : GL) : Meets P0 gl 27 (.data haveC) := by
  intro args K h
  unfold haveC at h
  split at h
  · exact does_mk noEq_ok (SpsOk.nil gl) Tryd.func27 (haveAn _) (fun i g s h => by cases h) [8] (have_vc gl _ _ _ h.1 K h.2)
  · exact h.elim
end Go.Proofs.YtgdcefohfebleaaDoor.V
/- field.modulus -/
set_option linter.unusedVariables false
set_option linter.unusedSimpArgs false
namespace Go.Proofs.YtgdcefohfebleaaDoor.V
open Go Go.Proofs

def gl0 : GL := fun g => bif Nat.beq g 0 then some (4, fun j => .v (.int .i64 ([8, 285, 16, 69643].getD j 0))) else none
def modF (m : Int) : Int := if m = 8 then 285 else if m = 16 then 69643 else 0
def modAn (m : Int) : An := { ann := fun k => bif Nat.beq k 2 then some { ι := Nat, nils := [], vars := fun i => [(6, .d (.v (.int .i64 (i : Int))))], mem := fun i => [], inv := fun i => i ≤ 2 ∧ (0 < i → m ≠ 8) ∧ (1 < i → m ≠ 16), init := 0, meas := fun i => 2 - i } else none }
def modC : List AV → (AV → Prop) → Prop
  | [.d (.v (.int .i64 m))], K => K (.d (.v (.int .i64 (modF m))))
  | _, _ => False
theorem mod_vc (sps : List (Nat × SpecE)) (m : Int) (K : MM → AV → Prop) (hK : ∀ mm r, r = modF m → K mm (.d (.v (.int .i64 r)))) :
    vcF (mk gl0 noEq sps Tryd.f128.ntmps (modAn m)) Tryd.f128 [.d (.v (.int .i64 m))] [] [] K := by
  repeat' (first | refine And.intro ?_ ?_ | intro _ | (refine brK_id ?_; first | with_reducible refine brK_t ?_ | with_reducible refine brK_f ?_ | with_reducible refine brK_dec ?_ ?_ | with_reducible refine brK_ndec ?_ ?_ | refine brK_of ?_ ?_) | exact True.intro | refine Exists.intro (Nat.succ (by assumption)) ?_ | refine hK _ _ ?_)
  all_goals (try (refine ⟨?_⟩))
  all_goals (try rfl)
  all_goals (try simp only [maxBytes, decide_eq_true_eq, decide_eq_false_iff_not, in64, Int.toNat_natCast] at *)
  all_goals (try omega)
  all_goals (try simp only [Nat.zero_add, Nat.reduceAdd, List.getD_cons_zero, List.getD_cons_succ] at *)
  all_goals (try omega)
  all_goals (unfold modF; (repeat' split) <;> omega)
theorem mod_fn : Fn P0 128 := ⟨Tryd.f128, Tryd.func128, by decide, rfl⟩
theorem mod_ok : Meets P0 gl0 128 (.lend modC) := by
  intro args K h
  unfold modC at h
  split at h
  · exact does_mk noEq_ok (SpsOk.nil gl0) Tryd.func128 (modAn _) (fun i g s h => by cases h) [] (mod_vc _ _ _ fun mm r hr => ⟨trivial, by rw [hr]; exact h⟩)
  · exact h.elim
end Go.Proofs.YtgdcefohfebleaaDoor.V
/- slices.IndexFunc, slices.ContainsFunc of ints -/
set_option linter.unusedVariables false
set_option linter.unusedSimpArgs false
namespace Go.Proofs.YtgdcefohfebleaaDoor.V
open Go Go.Proofs

/-- The first number below n with p, or -1. -/
def idxF (p : Nat → Bool) : Nat → Int
  | 0 => -1
  | n + 1 => let r := idxF p n; if r < 0 then (if p n then (n : Int) else -1) else r
theorem idxF_none (p : Nat → Bool) : ∀ n, (∀ j, j < n → p j = false) → idxF p n = -1
  | 0, _ => rfl
  | n + 1, h => by simp [idxF, idxF_none p n (fun j hj => h j (by omega)), h n (by omega)]
theorem idxF_some (p : Nat → Bool) (i : Nat) (hi : p i = true) (h : ∀ j, j < i → p j = false) : ∀ n, i < n → idxF p n = i
  | 0, hn => by omega
  | n + 1, hn => by
    by_cases e : i = n
    · subst e; simp [idxF, idxF_none p i h, hi]
    · simp [idxF, idxF_some p i hi h n (by omega)]; omega
/-- What a closure handed in is known to do. -/
structure Clo (gl : GL) (g : FuncId) (caps : List AV) (C : List AV → (AV → Prop) → Prop) : Prop where
  fn : Fn P0 g
  ok : Meets P0 gl g (.lend C)
  caps : ∀ mm K, K caps → lendsK mm caps K
def cloAn (g : FuncId) (C : List AV → (AV → Prop) → Prop) (i : Nat) : Option (FuncId × SpecE) := bif Nat.beq i 0 then some (g, .lend C) else none
theorem cloAn_ok {gl : GL} {g : FuncId} {caps : List AV} {C : List AV → (AV → Prop) → Prop} (h : Clo gl g caps C) : ∀ i g' s, cloAn g C i = some (g', s) → Fn P0 g' ∧ Meets P0 gl g' s := by
  intro i g' s hi
  unfold cloAn at hi
  cases hb : Nat.beq i 0 with
  | false => rw [hb] at hi; cases hi
  | true => rw [hb] at hi; cases hi; exact ⟨h.fn, h.ok⟩
def idxAn (n : Nat) (p : Nat → Bool) (g : FuncId) (C : List AV → (AV → Prop) → Prop) : An :=
  { fs := cloAn g C, ann := fun k => bif Nat.beq k 2 then some { ι := Nat, nils := [], vars := fun i => [(8, .d (.v (.int .i64 (i : Int))))], mem := fun i => [], inv := fun i => i ≤ n ∧ ∀ j, j < i → p j = false, init := 0, meas := fun i => n - i } else none }
theorem idx86 (l : List Int) (p : Nat → Bool) (hl : l.length ≤ 100000) (g : FuncId) (caps : List AV) (C : List AV → (AV → Prop) → Prop) (hclo : Clo gl0 g caps C)
    (hp : ∀ i, i < l.length → ∀ K : AV → Prop, K (.d (.v (.bool (p i)))) → C (.d (.v (.int .i64 (l.getD i 0))) :: caps) K) (K : MM → AV → Prop) (hK : ∀ mm r, r = idxF p l.length → K mm (.d (.v (.int .i64 r)))) :
    Does P0 gl0 86 [.d (.ints .i64 l), .fn g caps] [] K := by
  have hc := hclo.caps
  refine does_mk (args := [.d (.ints .i64 l), .clo 0 g caps]) noEq_ok (SpsOk.nil gl0) Tryd.func86 (idxAn l.length p g C) (cloAn_ok hclo) [] ?_
  repeat' (first | refine And.intro ?_ ?_ | intro _ | (refine brK_id ?_; first | with_reducible refine brK_t ?_ | with_reducible refine brK_f ?_ | with_reducible refine brK_dec ?_ ?_ | with_reducible refine brK_ndec ?_ ?_ | refine brK_of ?_ ?_) | exact True.intro | refine Exists.intro (Nat.succ (by assumption)) ?_ | refine hK _ _ ?_ | refine hc _ _ ?_ | refine hp _ ?_ _ ?_)
  all_goals (try (refine ⟨?_⟩))
  all_goals (try rfl)
  all_goals (try simp only [maxBytes, decide_eq_true_eq, decide_eq_false_iff_not, in64, Int.toNat_natCast] at *)
  all_goals (try omega)
  · exact ⟨Nat.zero_le _, fun j hj => absurd hj (Nat.not_lt_zero _)⟩
  · rename_i i h1 h3 h2
    exact (idxF_some p i h2 h1.2 _ (by omega)).symm
  · rename_i i h1 h3 h2
    refine ⟨⟨by omega, fun j hj => ?_⟩, by omega⟩
    by_cases e : j = i
    · subst e; exact h2
    · exact h1.2 j (by omega)
  · rename_i i h1 h2
    exact (idxF_none p _ fun j hj => h1.2 j (by omega)).symm
/-- Some number below n has p. -/
def anyF (p : Nat → Bool) (n : Nat) : Bool := (List.range n).any p
theorem idxF_any (p : Nat → Bool) : ∀ n, decide (0 ≤ idxF p n) = anyF p n
  | 0 => rfl
  | n + 1 => by
    have ih := idxF_any p n
    unfold anyF at ih ⊢
    rw [List.range_succ, List.any_append, ← ih]
    have h : idxF p (n + 1) = if idxF p n < 0 then (if p n = true then (n : Int) else -1) else idxF p n := rfl
    rw [Bool.eq_iff_iff]
    simp only [decide_eq_true_eq, Bool.or_eq_true, List.any_cons, List.any_nil, Bool.or_false, h]
    split
    · split
      · rename_i h1 h2; simp [h2]
      · rename_i h1 h2; simp [h2]; omega
    · omega
def idxL (args0 : List AV) (r0 : Int) (args : List AV) (K : AV → Prop) : Prop := Ob (args = args0) ∧ ∀ r, r = r0 → K (.d (.v (.int .i64 r)))
theorem cont57 (l : List Int) (p : Nat → Bool) (hl : l.length ≤ 100000) (g : FuncId) (caps : List AV) (C : List AV → (AV → Prop) → Prop) (hclo : Clo gl0 g caps C)
    (hp : ∀ i, i < l.length → ∀ K : AV → Prop, K (.d (.v (.bool (p i)))) → C (.d (.v (.int .i64 (l.getD i 0))) :: caps) K) (K : MM → AV → Prop) (hK : ∀ mm r, r = anyF p l.length → K mm (.d (.v (.bool r)))) :
    Does P0 gl0 57 [.d (.ints .i64 l), .fn g caps] [] K := by
  have hc := hclo.caps
  have h86 : Meets P0 gl0 86 (.lend (idxL [.d (.ints .i64 l), .fn g caps] (idxF p l.length))) := by
    rintro args K ⟨⟨rfl⟩, h⟩
    exact idx86 l p hl g caps C hclo hp _ fun mm r hr => ⟨trivial, h r hr⟩
  refine does_mk noEq_ok ((SpsOk.nil gl0).cons ⟨Tryd.f86, Tryd.func86, by decide, rfl⟩ h86) Tryd.func57 {} (fun i g s h => by cases h) [] ?_
  repeat' (first | refine And.intro ?_ ?_ | intro _ | (refine brK_id ?_; first | with_reducible refine brK_t ?_ | with_reducible refine brK_f ?_ | with_reducible refine brK_dec ?_ ?_ | with_reducible refine brK_ndec ?_ ?_ | refine brK_of ?_ ?_) | exact True.intro | refine hK _ _ ?_ | refine hc _ _ ?_)
  all_goals (try (refine ⟨?_⟩))
  all_goals (try rfl)
  rename_i r hr
  rw [hr]
  exact idxF_any p _
end Go.Proofs.YtgdcefohfebleaaDoor.V
/- field.all, field.Valid -/
set_option linter.unusedVariables false
set_option linter.unusedSimpArgs false
namespace Go.Proofs.YtgdcefohfebleaaDoor.V
open Go Go.Proofs

theorem Does.conv {gl : GL} {g : FuncId} {args args' : List AV} {mm0 : MM} {post : MM → AV → Prop} (h : ∀ w ok β vs, AV.reps w ok β args vs → AV.reps w ok β args' vs) (hd : Does P0 gl g args' mm0 post) : Does P0 gl g args mm0 post :=
  fun W β ok0 vs h1 h2 h3 => hd W β ok0 vs h1 h2 (h _ _ _ _ h3)
/-- a is no element of the field with m bits -/
def badF (m a : Int) : Bool := decide (a < 0) || !decide (a / 2 ^ min m.toNat 64 = 0)
def all1C : List AV → (AV → Prop) → Prop
  | [.d (.v (.int .i64 a)), .ep 1 f], K => match f 0 with
    | .v (.int .i64 m) => 0 ≤ m ∧ K (.d (.v (.bool (badF m a))))
    | _ => False
  | _, _ => False
theorem all1_ok : Meets P0 gl0 129 (.lend all1C) := by
  intro args K h
  unfold all1C at h
  split at h
  · rename_i a f
    split at h
    · rename_i m hf
      refine Does.conv (args' := [.d (.v (.int .i64 a)), .ep 1 fun _ => .v (.int .i64 m)]) ?_ ?_
      · rintro w ok β vs ⟨v1, r1, rfl, h1, v2, r2, rfl, ⟨ad, e, h2, h3⟩, h4⟩
        refine ⟨v1, _, rfl, h1, v2, _, rfl, ⟨ad, e, h2, fun j hj => ?_⟩, h4⟩
        obtain ⟨u, hu, h5, h6⟩ := h3 j hj
        obtain rfl : j = 0 := by omega
        rw [hf] at h6
        exact ⟨u, hu, h5, h6⟩
      · have hm := h.1
        have hK : ∀ b, b = badF m a → K (.d (.v (.bool b))) := fun b hb => by rw [hb]; exact h.2
        refine does_mk noEq_ok (SpsOk.nil gl0) Tryd.func129 {} (fun i g s h => by cases h) [] ?_
        repeat' (first | refine And.intro ?_ ?_ | intro _ | (refine brK_id ?_; first | with_reducible refine brK_t ?_ | with_reducible refine brK_f ?_ | with_reducible refine brK_dec ?_ ?_ | with_reducible refine brK_ndec ?_ ?_ | refine brK_of ?_ ?_) | exact True.intro | refine hK _ ?_)
        all_goals (try (refine ⟨?_⟩))
        all_goals (try rfl)
        all_goals (try simp only [decide_eq_true_eq, decide_eq_false_iff_not] at *)
        all_goals (try omega)
        · rename_i h1; simp [badF, h1]
        · rename_i h1
          have h2 : decide (a < 0) = false := by simpa using h1
          rw [badF, h2, Bool.false_or]; rfl
    · exact h.elim
  · exact h.elim
end Go.Proofs.YtgdcefohfebleaaDoor.V
/- field.all, field.Valid -/
set_option linter.unusedVariables false
set_option linter.unusedSimpArgs false
namespace Go.Proofs.YtgdcefohfebleaaDoor.V
open Go Go.Proofs

/-- ContainsFunc of ints, with a closure out of a table. -/
def contC (spg : Nat → Option SpecE) : List AV → (AV → Prop) → Prop
  | [.d (.ints .i64 l), .fn g caps], K => match spg g with
    | some (.lend C) => Ob (l.length ≤ 100000) ∧ (∀ mm (K' : List AV → Prop), K' caps → lendsK mm caps K') ∧ ∃ p : Nat → Bool, (∀ i, i < l.length → ∀ K' : AV → Prop, K' (.d (.v (.bool (p i)))) → C (.d (.v (.int .i64 (l.getD i 0))) :: caps) K') ∧ K (.d (.v (.bool (anyF p l.length))))
    | _ => False
  | _, _ => False
theorem contC_ok {sps : List (Nat × SpecE)} (hs : SpsOk gl0 sps) : Meets P0 gl0 57 (.lend (contC (spOf sps))) := by
  intro args K h
  unfold contC at h
  split at h
  · rename_i l g caps
    split at h
    · rename_i C hC
      obtain ⟨⟨h1⟩, h2, p, h3, h4⟩ := h
      obtain ⟨f1, f2⟩ := hs g _ hC
      exact cont57 l p h1 g caps C ⟨f1, f2, h2⟩ h3 _ fun mm r hr => ⟨trivial, by rw [hr]; exact h4⟩
    · exact h.elim
  · exact h.elim
def allF (m : Int) (l : List Int) : Bool := !decide (modF m = 0) && !anyF (fun i => badF m (l.getD i 0)) l.length
def allC : List AV → (AV → Prop) → Prop
  | [.d (.v (.int .i64 m)), .d (.ints .i64 l)], K => l.length ≤ 100000 ∧ K (.d (.v (.bool (allF m l))))
  | _, _ => False
theorem modF_pos {m : Int} (h : ¬ modF m = 0) : m = 8 ∨ m = 16 := by
  unfold modF at h
  split at h
  · exact .inl ‹_›
  · split at h
    · exact .inr ‹_›
    · exact absurd rfl h
def spsF1 : List (Nat × SpecE) := [(129, .lend all1C)]
theorem spsF1_ok : SpsOk gl0 spsF1 := (SpsOk.nil gl0).cons ⟨Tryd.f129, Tryd.func129, by decide, rfl⟩ all1_ok
def spsF2 : List (Nat × SpecE) := (57, .lend (contC (spOf spsF1))) :: (128, .lend modC) :: spsF1
theorem spsF2_ok : SpsOk gl0 spsF2 := (spsF1_ok.cons mod_fn mod_ok).cons ⟨Tryd.f57, Tryd.func57, by decide, rfl⟩ (contC_ok spsF1_ok)
theorem all_ok : Meets P0 gl0 121 (.lend allC) := by
  intro args K h
  unfold allC at h
  split at h
  · rename_i m l
    obtain ⟨hl, h⟩ := h
    have hK : ∀ b, b = allF m l → K (.d (.v (.bool b))) := fun b hb => by rw [hb]; exact h
    refine does_mk noEq_ok spsF2_ok Tryd.func121 {} (fun i g s h => by cases h) [] ?_
    repeat' (first | refine And.intro ?_ ?_ | intro _ | (refine brK_id ?_; first | with_reducible refine brK_t ?_ | with_reducible refine brK_f ?_ | with_reducible refine brK_dec ?_ ?_ | with_reducible refine brK_ndec ?_ ?_ | refine brK_of ?_ ?_) | exact True.intro | refine hK _ ?_ | refine Exists.intro (fun i => badF m (l.getD i 0)) ?_)
    all_goals (try (refine ⟨?_⟩))
    all_goals (try rfl)
    all_goals (try assumption)
    · rename_i h2 _ _ _ _
      rcases modF_pos (by simpa using h2) with e | e <;> omega
    · rename_i h2
      unfold allF; rw [decide_eq_false h2]; rfl
    · rename_i h2
      unfold allF; rw [decide_eq_true h2]; rfl
  · exact h.elim
/-- field.Valid -/
def okF (m a : Int) : Bool := allF m [a]
def okC : List AV → (AV → Prop) → Prop
  | [.d (.v (.int .i64 m)), .d (.v (.int .i64 a))], K => K (.d (.v (.bool (okF m a))))
  | _, _ => False
def spsF3 : List (Nat × SpecE) := (121, .lend allC) :: spsF2
theorem spsF3_ok : SpsOk gl0 spsF3 := spsF2_ok.cons ⟨Tryd.f121, Tryd.func121, by decide, rfl⟩ all_ok
theorem ok_ok : Meets P0 gl0 105 (.lend okC) := by
  intro args K h
  unfold okC at h
  split at h
  · rename_i m a
    have h : ∀ b, b = okF m a → K (.d (.v (.bool b))) := fun b hb => by rw [hb]; exact h
    refine does_mk noEq_ok spsF3_ok Tryd.func105 {} (fun i g s h => by cases h) [] ?_
    repeat' (first | refine And.intro ?_ ?_ | intro _ | (refine brK_id ?_; first | with_reducible refine brK_t ?_ | with_reducible refine brK_f ?_ | with_reducible refine brK_dec ?_ ?_ | with_reducible refine brK_ndec ?_ ?_ | refine brK_of ?_ ?_) | exact True.intro | refine h _ ?_)
    all_goals (try (refine ⟨?_⟩))
    all_goals (try rfl)
    all_goals (try assumption)
    all_goals (try exact ⟨rfl, rfl⟩)
    all_goals (simp)
  · exact h.elim
end Go.Proofs.YtgdcefohfebleaaDoor.V
/- field.product, field.Mul -/
set_option linter.unusedVariables false
set_option linter.unusedSimpArgs false
namespace Go.Proofs.YtgdcefohfebleaaDoor.V
open Go Go.Proofs

def modN (m : Nat) : Nat := if m = 8 then 285 else if m = 16 then 69643 else 0
def prodStep (m a b i out : Nat) : Nat :=
  let o := out * 2
  let o := if o / 2 ^ m = 0 then o else o ^^^ modN m
  if (b / 2 ^ i) % 2 = 0 then o else o ^^^ a
/-- what is left to do with the k low bits -/
def prodN (m a b : Nat) : Nat → Nat → Nat
  | 0, out => out
  | k + 1, out => prodN m a b k (prodStep m a b k out)
theorem xor_top {m x y : Nat} (hx : 2 ^ m ≤ x) (hx2 : x < 2 ^ (m + 1)) (hy : 2 ^ m ≤ y) (hy2 : y < 2 ^ (m + 1)) : x ^^^ y < 2 ^ m := by
  refine Nat.lt_pow_two_of_testBit _ fun i hi => ?_
  rw [Nat.testBit_xor]
  rcases Nat.lt_or_ge m i with h | h
  · rw [Nat.testBit_lt_two_pow (Nat.lt_of_lt_of_le hx2 (Nat.pow_le_pow_right (by omega) h)), Nat.testBit_lt_two_pow (Nat.lt_of_lt_of_le hy2 (Nat.pow_le_pow_right (by omega) h))]; rfl
  · obtain rfl : i = m := by omega
    rw [Nat.testBit_of_two_pow_le_and_two_pow_add_one_gt hx hx2, Nat.testBit_of_two_pow_le_and_two_pow_add_one_gt hy hy2]; rfl
theorem prodStep_lt {m a b i out : Nat} (hm : m = 8 ∨ m = 16) (ha : a < 2 ^ m) (ho : out < 2 ^ m) : prodStep m a b i out < 2 ^ m := by
  have h1 : (if out * 2 / 2 ^ m = 0 then out * 2 else out * 2 ^^^ modN m) < 2 ^ m := by
    split
    · rename_i h
      exact (Nat.div_eq_zero_iff_lt (Nat.pow_pos (by omega))).1 h |> fun h => h
    · rename_i h
      have h2 : 2 ^ m ≤ out * 2 := by
        rcases Nat.lt_or_ge (out * 2) (2 ^ m) with h3 | h3
        · exact absurd (Nat.div_eq_of_lt h3) h
        · exact h3
      refine xor_top h2 (by rw [Nat.pow_succ]; omega) ?_ ?_
      · rcases hm with rfl | rfl <;> decide
      · rcases hm with rfl | rfl <;> decide
  unfold prodStep
  simp only
  split
  · exact h1
  · exact Nat.xor_lt_two_pow h1 ha
def prodAn (m a b : Nat) : An := { ann := fun k => bif Nat.beq k 3 then some { ι := Nat × Nat, nils := [], vars := fun x => [(9, .d (.v (.int .i64 ((x.1 : Int) - 1)))), (8, .d (.v (.int .i64 (x.2 : Int))))], mem := fun i => [], inv := fun x => x.1 ≤ m ∧ x.2 < 2 ^ m ∧ prodN m a b x.1 x.2 = prodN m a b m 0, init := (m, 0), meas := fun x => x.1 } else none }
theorem shl1 (x : Nat) : (x : Int) * 2 ^ min 1 IntKind.i64.bits = ((x * 2 : Nat) : Int) := by
  have : min 1 IntKind.i64.bits = 1 := rfl
  rw [this]; simp
theorem shrN (x y : Nat) : (x : Int) / 2 ^ min y IntKind.i64.bits = ((x / 2 ^ min y 64 : Nat) : Int) := by
  rw [Int.natCast_ediv, Int.natCast_pow]; rfl
theorem pred_nat (k : Nat) : ((k : Int) - 1).toNat = k - 1 := by omega
theorem one_nat : Int.toNat 1 = 1 := rfl
theorem zero_nat (x : Nat) : ((x : Int) = 0) = (x = 0) := by simp
theorem modN_eq (m : Nat) : modF (m : Int) = ((modN m : Nat) : Int) := by
  unfold modF modN
  by_cases h : m = 8
  · subst h; rfl
  · by_cases h2 : m = 16
    · subst h2; rfl
    · rw [if_neg (by omega), if_neg (by omega), if_neg h, if_neg h2]; rfl
theorem prod_inv {m a b : Nat} (hm : m = 8 ∨ m = 16) (ha : a < 2 ^ m) {x : Nat × Nat} (h1 : x.1 ≤ m ∧ x.2 < 2 ^ m ∧ prodN m a b x.1 x.2 = prodN m a b m 0) (h2 : 0 ≤ (x.1 : Int) - 1) :
    (x.1 - 1 ≤ m ∧ prodStep m a b (x.1 - 1) x.2 < 2 ^ m ∧ prodN m a b (x.1 - 1) (prodStep m a b (x.1 - 1) x.2) = prodN m a b m 0) ∧ x.1 - 1 < x.1 := by
  obtain ⟨k, out⟩ := x
  simp only at h1 h2 ⊢
  obtain ⟨k, rfl⟩ : ∃ j, k = j + 1 := ⟨k - 1, by omega⟩
  refine ⟨⟨by omega, prodStep_lt hm ha h1.2.1, ?_⟩, by omega⟩
  rw [Nat.add_sub_cancel]
  exact h1.2.2
theorem pos_div {b n : Nat} (hb : b < 65536) : pos64 ((b / n : Nat) : Int) ∧ pos64 1 := by
  have := Nat.div_le_self b n
  revert this
  generalize b / n = t
  intro this
  unfold pos64; omega
theorem pos_xor {x y z : Nat} (hx : x < 65536 * 2) (hy : y < 131072) (hz : z < 65536 * 2) : pos64 ((x ^^^ y : Nat) : Int) ∧ pos64 (z : Int) := by
  have := Nat.xor_lt_two_pow (n := 17) (by omega : x < 2 ^ 17) (by omega : y < 2 ^ 17)
  revert this
  generalize x ^^^ y = t
  intro this
  unfold pos64; omega
set_option maxRecDepth 20000 in
theorem prod_vc (m a b : Nat) (hm : m = 8 ∨ m = 16) (ha : a < 2 ^ m) (hb : b < 2 ^ m) (K : MM → AV → Prop) (hK : ∀ mm r, r = (prodN m a b m 0 : Nat) → K mm (.d (.v (.int .i64 r)))) :
    vcF (mk gl0 noEq spsF2 Tryd.f133.ntmps (prodAn m a b)) Tryd.f133 [.d (.v (.int .i64 (m : Int))), .d (.v (.int .i64 (a : Int))), .d (.v (.int .i64 (b : Int)))] [] [] K := by
  repeat' (first | refine And.intro ?_ ?_ | intro _ | (refine brK_id ?_; first | with_reducible refine brK_t ?_ | with_reducible refine brK_f ?_ | with_reducible refine brK_dec ?_ ?_ | with_reducible refine brK_ndec ?_ ?_ | refine brK_of ?_ ?_) | exact True.intro | refine hK _ _ ?_ | refine Exists.intro ((by assumption : Nat × Nat).1 - 1, prodStep m a b ((by assumption : Nat × Nat).1 - 1) (by assumption : Nat × Nat).2) ?_)
  all_goals (try (refine ⟨?_⟩))
  all_goals (try rfl)
  all_goals (have hm16 : m ≤ 16 := by omega)
  all_goals (have hpm : (2 : Nat) ^ m ≤ 65536 := by rcases hm with rfl | rfl <;> decide)
  all_goals (have hmN : modN m < 2 ^ 63 ∧ modN m < 131072 := by rcases hm with rfl | rfl <;> decide)
  all_goals (have hmin : min m 64 = m := by omega)
  all_goals (try simp only [shl1, modN_eq, shrN, pred_nat, one_nat, zero_nat, hmin, Nat.and_one_is_mod, Int.toNat_natCast, decide_eq_true_eq, decide_eq_false_iff_not, Bool.not_eq_true'] at *)
  all_goals (try omega)
  all_goals (try (unfold in64; omega))
  all_goals (try (unfold pos64; omega))
  all_goals (try (exact ⟨Nat.le_refl _, Nat.pow_pos (by omega), trivial⟩))
  all_goals (try (exact prod_inv hm ha (by assumption) (by assumption)))
  all_goals (try (exact pos_div (by omega)))
  all_goals (try (exact pos_xor (by omega) (by omega) (by omega)))
  all_goals (try (have hk : min ((by assumption : Nat × Nat).1 - 1) 64 = (by assumption : Nat × Nat).1 - 1 := by omega))
  all_goals (try (simp_all [prodStep]; done))
  · rename_i x h1 h2 h3 h4
    rw [hk] at h4
    simp only [prodStep, if_neg h3, if_neg h4]
  · rename_i x h1 h2 h3 h4
    rw [hk] at h4
    have h5 : b / 2 ^ (x.1 - 1) % 2 = 0 := by simpa using h4
    simp only [prodStep, if_neg h3, if_pos h5]
  · rename_i x h1 h2
    obtain ⟨k, out⟩ := x
    obtain rfl : k = 0 := by simp only at h2; omega
    exact h1.2.2
end Go.Proofs.YtgdcefohfebleaaDoor.V
/- field.product, field.Mul: what calls of them do -/
set_option linter.unusedVariables false
set_option linter.unusedSimpArgs false
namespace Go.Proofs.YtgdcefohfebleaaDoor.V
open Go Go.Proofs

def mulF (m a b : Int) : Int := (prodN m.toNat a.toNat b.toNat m.toNat 0 : Nat)
theorem badF_lt {m a : Int} (hm : m = 8 ∨ m = 16) (h : badF m a = false) : ∃ n : Nat, a = n ∧ n < 2 ^ m.toNat := by
  unfold badF at h
  simp only [Bool.or_eq_false_iff, decide_eq_false_iff_not, Bool.not_eq_false', decide_eq_true_eq] at h
  obtain ⟨n, rfl⟩ := Int.eq_ofNat_of_zero_le (show 0 ≤ a by omega)
  refine ⟨n, rfl, ?_⟩
  rcases hm with rfl | rfl
  · have h2 := h.2
    rw [show min (Int.toNat 8) 64 = 8 from rfl] at h2
    show n < 256
    omega
  · have h2 := h.2
    rw [show min (Int.toNat 16) 64 = 16 from rfl] at h2
    show n < 65536
    omega
def prodC : List AV → (AV → Prop) → Prop
  | [.d (.v (.int .i64 m)), .d (.v (.int .i64 a)), .d (.v (.int .i64 b))], K => allF m [a, b] = true ∧ K (.d (.v (.int .i64 (mulF m a b))))
  | _, _ => False
theorem allF2 {m a b : Int} (h : allF m [a, b] = true) : (m = 8 ∨ m = 16) ∧ badF m a = false ∧ badF m b = false := by
  unfold allF anyF at h
  simp only [Bool.and_eq_true, Bool.not_eq_true', decide_eq_false_iff_not] at h
  obtain ⟨h1, h2⟩ := h
  refine ⟨modF_pos h1, ?_⟩
  simp [List.range_succ] at h2
  simpa using h2
theorem prod_ok : Meets P0 gl0 133 (.lend prodC) := by
  intro args K h
  unfold prodC at h
  split at h
  · rename_i m a b
    obtain ⟨h1, h2⟩ := h
    obtain ⟨hm, ha, hb⟩ := allF2 h1
    obtain ⟨a, rfl, ha2⟩ := badF_lt hm ha
    obtain ⟨b, rfl, hb2⟩ := badF_lt hm hb
    obtain ⟨m, rfl⟩ := Int.eq_ofNat_of_zero_le (show 0 ≤ m by omega)
    exact does_mk noEq_ok spsF2_ok Tryd.func133 (prodAn m a b) (fun i g s h => by cases h) [] (prod_vc m a b (by omega) ha2 hb2 _ fun mm r hr => ⟨trivial, by subst hr; exact h2⟩)
  · exact h.elim
def mulC : List AV → (AV → Prop) → Prop
  | [.d (.v (.int .i64 m)), .d (.v (.int .i64 a)), .d (.v (.int .i64 b))], K => (allF m [a, b] = true → K (.tup [.d (.v (.int .i64 (mulF m a b))), .d (.v (.int .i64 0))])) ∧ (allF m [a, b] = false → K (.tup [.d (.v (.int .i64 0)), .d (.v (.int .i64 1))]))
  | _, _ => False
def spsF4 : List (Nat × SpecE) := (133, .lend prodC) :: spsF3
theorem spsF4_ok : SpsOk gl0 spsF4 := spsF3_ok.cons ⟨Tryd.f133, Tryd.func133, by decide, rfl⟩ prod_ok
theorem mul_ok : Meets P0 gl0 126 (.lend mulC) := by
  intro args K h
  unfold mulC at h
  split at h
  · rename_i m a b
    obtain ⟨h1, h2⟩ := h
    refine does_mk noEq_ok spsF4_ok Tryd.func126 {} (fun i g s h => by cases h) [] ?_
    repeat' (first | refine And.intro ?_ ?_ | intro _ | (refine brK_id ?_; first | with_reducible refine brK_t ?_ | with_reducible refine brK_f ?_ | with_reducible refine brK_dec ?_ ?_ | with_reducible refine brK_ndec ?_ ?_ | refine brK_of ?_ ?_) | exact True.intro | refine h1 ?_ | refine h2 ?_)
    all_goals (try (refine ⟨?_⟩))
    all_goals (try rfl)
    all_goals (try exact ⟨rfl, rfl⟩)
    all_goals (try simp_all)
  · exact h.elim
end Go.Proofs.YtgdcefohfebleaaDoor.V
/- field.degree -/
set_option linter.unusedVariables false
set_option linter.unusedSimpArgs false
namespace Go.Proofs.YtgdcefohfebleaaDoor.V
open Go Go.Proofs

/-- How many bits a number has. -/
def bitsN : Nat → Nat → Nat
  | 0, _ => 0
  | f + 1, a => if a = 0 then 0 else bitsN f (a / 2) + 1
def degF (a : Int) : Int := (bitsN 64 a.toNat : Nat) - 1
theorem bitsN_more : ∀ (f g a : Nat), a < 2 ^ f → f ≤ g → bitsN g a = bitsN f a
  | 0, 0, _, _, _ => rfl
  | 0, g + 1, a, h, _ => by
    obtain rfl : a = 0 := by simp at h; exact h
    simp [bitsN]
  | f + 1, 0, _, _, h => by omega
  | f + 1, g + 1, a, h, hle => by
    simp only [bitsN]
    split
    · rfl
    · rw [bitsN_more f g (a / 2) (by rw [Nat.pow_succ] at h; omega) (by omega)]
theorem bitsN_le : ∀ f a, bitsN f a ≤ f
  | 0, _ => Nat.le_refl _
  | f + 1, a => by
    simp only [bitsN]
    split
    · omega
    · have := bitsN_le f (a / 2); omega
theorem bits_half {a : Nat} (ha : a < 2 ^ 62) (h : a ≠ 0) : bitsN 64 a = bitsN 64 (a / 2) + 1 := by
  have h1 : bitsN 64 a = bitsN 63 (a / 2) + 1 := by
    show (if a = 0 then 0 else bitsN 63 (a / 2) + 1) = _
    rw [if_neg h]
  rw [h1, bitsN_more 63 64 (a / 2) (by omega) (by omega)]
def degAn (a : Nat) : An := { ann := fun k => bif Nat.beq k 2 then some { ι := Nat × Nat, nils := [], vars := fun x => [(0, .d (.v (.int .i64 (x.1 : Int)))), (3, .d (.v (.int .i64 ((x.2 : Int) - 1))))], mem := fun i => [], inv := fun x => x.1 ≤ a ∧ x.2 + bitsN 64 x.1 = bitsN 64 a, init := (a, 0), meas := fun x => x.1 } else none }
theorem deg_vc (a : Nat) (ha : a < 2 ^ 62) (K : MM → AV → Prop) (hK : ∀ mm r, r = degF a → K mm (.d (.v (.int .i64 r)))) :
    vcF (mk gl0 noEq [] Tryd.f131.ntmps (degAn a)) Tryd.f131 [.d (.v (.int .i64 (a : Int)))] [] [] K := by
  repeat' (first | refine And.intro ?_ ?_ | intro _ | (refine brK_id ?_; first | with_reducible refine brK_t ?_ | with_reducible refine brK_f ?_ | with_reducible refine brK_dec ?_ ?_ | with_reducible refine brK_ndec ?_ ?_ | refine brK_of ?_ ?_) | exact True.intro | refine hK _ _ ?_ | refine Exists.intro ((by assumption : Nat × Nat).1 / 2, (by assumption : Nat × Nat).2 + 1) ?_)
  all_goals (try (refine ⟨?_⟩))
  all_goals (try rfl)
  · exact ⟨Nat.le_refl _, by simp⟩
  all_goals (rename_i x h1 h2)
  · have := bitsN_le 64 a; unfold in64; omega
  · decide
  · have h3 : x.1 ≠ 0 := by simpa using h2
    have := bits_half (a := x.1) (by omega) h3
    refine ⟨⟨?_, ?_⟩, ?_⟩ <;> simp only <;> omega
  · simp only; omega
  · have h3 : x.1 = 0 := by simpa using h2
    have h4 : bitsN 64 0 = 0 := rfl
    have h5 := h1.2
    rw [h3, h4] at h5
    unfold degF
    rw [Int.toNat_natCast, ← h5]; rfl
theorem deg_fn : Fn P0 131 := ⟨Tryd.f131, Tryd.func131, by decide, rfl⟩
def degC : List AV → (AV → Prop) → Prop
  | [.d (.v (.int .i64 a))], K => Ob (0 ≤ a ∧ a < 2 ^ 62) ∧ K (.d (.v (.int .i64 (degF a))))
  | _, _ => False
theorem deg_ok : Meets P0 gl0 131 (.lend degC) := by
  intro args K h
  unfold degC at h
  split at h
  · rename_i a
    obtain ⟨⟨h1, h2⟩, h3⟩ := h
    obtain ⟨a, rfl⟩ := Int.eq_ofNat_of_zero_le h1
    exact does_mk noEq_ok (SpsOk.nil gl0) Tryd.func131 (degAn a) (fun i g s h => by cases h) [] (deg_vc a (by omega) _ fun mm r hr => ⟨trivial, by subst hr; exact h3⟩)
  · exact h.elim
theorem degF_nat (a : Nat) : degF (a : Int) = (bitsN 64 a : Nat) - 1 := rfl
attribute [irreducible] degF
end Go.Proofs.YtgdcefohfebleaaDoor.V
