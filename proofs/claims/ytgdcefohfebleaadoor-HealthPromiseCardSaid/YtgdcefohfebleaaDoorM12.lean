/-
  Proved here, step by step for the theorem UW: matrix.reduce: the walk
  Conditions: those that stand in each theorem.
-/
import Derived.Test.YtgdcefohfebleaaDoorM10
/- matrix.reduce: the walk -/
set_option linter.unusedVariables false
set_option linter.unusedSimpArgs false
namespace Go.Proofs.YtgdcefohfebleaaDoor.V
open Go Go.Proofs

def planRed11 : Plan := .take 0 (.take 1 (.take 2 (.take 3 (.take 5 (.alt 4 (.take 6 (.take 7 (.alt 8 (.take 9 (.take 10 (.take 11 (.take 12 (.take 13 (.done)))))) (.done)))) (.done))))))
def planRed15 : Plan := .take 0 (.take 1 (.take 3 (.take 4 (.take 5 (.take 6 (.take 7 (.alt 2 (.alt 8 (.take 9 (.alt 10 (.done) (.done))) (.done)) (.done))))))))
def planRed21 : Plan := .take 0 (.take 1 (.take 3 (.take 6 (.take 9 (.take 11 (.alt 2 (.alt 4 (.alt 5 (.alt 7 (.alt 8 (.alt 10 (.take 12 (.take 13 (.alt 14 (.done) (.done)))) (.done)) (.done)) (.alt 8 (.alt 7 (.alt 10 (.take 12 (.take 13 (.alt 14 (.done) (.done)))) (.done)) (.done)) (.done))) (.alt 8 (.alt 5 (.alt 7 (.alt 10 (.take 12 (.take 13 (.alt 14 (.done) (.done)))) (.done)) (.done)) (.done)) (.done))) (.alt 5 (.alt 4 (.alt 7 (.alt 8 (.alt 10 (.take 12 (.take 13 (.alt 14 (.done) (.done)))) (.done)) (.done)) (.alt 8 (.alt 7 (.alt 10 (.take 12 (.take 13 (.alt 14 (.done) (.done)))) (.done)) (.done)) (.done))) (.alt 8 (.alt 4 (.alt 7 (.alt 10 (.take 12 (.take 13 (.alt 14 (.done) (.done)))) (.done)) (.done)) (.done)) (.done))) (.alt 8 (.alt 4 (.alt 5 (.alt 7 (.alt 10 (.take 12 (.take 13 (.alt 14 (.done) (.done)))) (.done)) (.done)) (.done)) (.alt 5 (.alt 4 (.alt 7 (.alt 10 (.take 12 (.take 13 (.alt 14 (.done) (.done)))) (.done)) (.done)) (.done)) (.done))) (.done)))) (.alt 5 (.alt 2 (.alt 4 (.alt 7 (.alt 8 (.alt 10 (.take 12 (.take 13 (.alt 14 (.done) (.done)))) (.done)) (.done)) (.alt 8 (.alt 7 (.alt 10 (.take 12 (.take 13 (.alt 14 (.done) (.done)))) (.done)) (.done)) (.done))) (.alt 8 (.alt 4 (.alt 7 (.alt 10 (.take 12 (.take 13 (.alt 14 (.done) (.done)))) (.done)) (.done)) (.done)) (.done))) (.alt 8 (.alt 2 (.alt 4 (.alt 7 (.alt 10 (.take 12 (.take 13 (.alt 14 (.done) (.done)))) (.done)) (.done)) (.done)) (.done)) (.done))) (.alt 8 (.alt 2 (.alt 4 (.alt 5 (.alt 7 (.alt 10 (.take 12 (.take 13 (.alt 14 (.done) (.done)))) (.done)) (.done)) (.done)) (.alt 5 (.alt 4 (.alt 7 (.alt 10 (.take 12 (.take 13 (.alt 14 (.done) (.done)))) (.done)) (.done)) (.done)) (.done))) (.alt 5 (.alt 2 (.alt 4 (.alt 7 (.alt 10 (.take 12 (.take 13 (.alt 14 (.done) (.done)))) (.done)) (.done)) (.done)) (.done)) (.done))) (.done)))))))))
structure RJ where
  j : Nat
structure RI where
  i : Nat
structure RK where
  k : Nat
structure RE where
  e : Nat
section
variable (m : Int) (n c w : Nat) (l0 : List Int)
def redS (j : Nat) : List Int × List Int := colsN m n c j (l0, [])
def redL3 : LAnn := { ι := RJ, nils := [(4, 4, 3, .ints .i64 [])], vars := fun x => [(16, .d (.v (.int .i64 (x.j : Int)))), (4, .own 4 (redS m n c l0 x.j).2.length)], mem := fun x => [(1048576, .row 3 (.ints .i64 (redS m n c l0 x.j).1)), (4, .row 3 (.ints .i64 (redS m n c l0 x.j).2))], inv := fun x => x.j ≤ w, init := ⟨0⟩, meas := fun x => w - x.j }
variable (l : List Int) (r j : Nat)
def redL8 : LAnn := { ι := RI, nils := [], vars := fun x => [(8, .d (.v (.int .i64 (x.i : Int))))], mem := fun x => [], inv := fun x => r ≤ x.i ∧ x.i ≤ n ∧ findN c j l (n - x.i) x.i = findN c j l (n - r) r, init := ⟨r⟩, meas := fun x => n - x.i }
variable (f : Int)
def redL13 : LAnn := { ι := RK, nils := [], vars := fun x => [(55, .d (.v (.int .i64 (x.k : Int))))], mem := fun x => [(1048576, .row 3 (.ints .i64 (scaleN m f (r * c) x.k l)))], inv := fun x => x.k ≤ c, init := ⟨0⟩, meas := fun x => c - x.k }
def redL18 : LAnn := { ι := RE, nils := [], vars := fun x => [(73, .d (.v (.int .i64 (x.e : Int))))], mem := fun x => [(1048576, .row 3 (.ints .i64 (elimN m c r j x.e l)))], inv := fun x => x.e ≤ n, init := ⟨0⟩, meas := fun x => n - x.e }
end
def redMAn : An := { plan := fun k => bif Nat.beq k 11 then some planRed11 else bif Nat.beq k 15 then some planRed15 else bif Nat.beq k 21 then some planRed21 else none }
def spsM4 : List (Nat × SpecE) := (116, .lend timesC) :: (114, .heap swapC) :: spsM3
theorem spsM4_ok : SpsOk gl0 spsM4 := (spsM3_ok.cons ⟨Tryd.f114, Tryd.func114, by decide, rfl⟩ swap_ok).cons ⟨Tryd.f116, Tryd.func116, by decide, rfl⟩ times_ok
theorem redS_ok {m : Int} {n c : Nat} {l0 : List Int} (hl : l0.length = n * c) (hi : In16 l0) (j : Nat) : (redS m n c l0 j).1.length = n * c ∧ In16 (redS m n c l0 j).1 ∧ (redS m n c l0 j).2.length ≤ n :=
  colsN_ok (s := (l0, [])) hl hi (Nat.zero_le _)
theorem redS_zero (m : Int) (n c : Nat) (l0 : List Int) : redS m n c l0 0 = (l0, []) := rfl
theorem redS_none {m : Int} {n c j : Nat} {l0 : List Int} (h : findN c j (redS m n c l0 j).1 (n - (redS m n c l0 j).2.length) (redS m n c l0 j).2.length = none) : redS m n c l0 (j + 1) = redS m n c l0 j := by
  show colN m n c j (redS m n c l0 j) = _
  unfold colN
  rw [h]
theorem redS_some {m : Int} {n c j i : Nat} {l0 l' : List Int} (h : findN c j (redS m n c l0 j).1 (n - (redS m n c l0 j).2.length) (redS m n c l0 j).2.length = some i) (hl : l' = swapN (i * c) ((redS m n c l0 j).2.length * c) c (redS m n c l0 j).1) :
    redS m n c l0 (j + 1) = (elimN m c (redS m n c l0 j).2.length j n (scaleN m (InvF m (l'.getD ((redS m n c l0 j).2.length * c + j) 0)) ((redS m n c l0 j).2.length * c) c l'), (redS m n c l0 j).2 ++ [(j : Int)]) := by
  show colN m n c j (redS m n c l0 j) = _
  unfold colN
  rw [h, hl]
theorem find_step {c j : Nat} {l : List Int} {n i : Nat} (hi : i < n) : findN c j l (n - i) i = if l.getD (i * c + j) 0 = 0 then findN c j l (n - (i + 1)) (i + 1) else some i := by
  rw [show n - i = (n - (i + 1)) + 1 by omega]; rfl
theorem find_next {c j : Nat} {l : List Int} {n i : Nat} {o : Option Nat} (hi : i < n) (h0 : l.getD (i * c + j) 0 = 0) (h : findN c j l (n - i) i = o) : findN c j l (n - (i + 1)) (i + 1) = o := by
  rw [← h, find_step hi, if_pos h0]
theorem find_end {c j : Nat} {l : List Int} {n i : Nat} (hi : i = n) : findN c j l (n - i) i = none := by rw [hi, Nat.sub_self]; rfl
attribute [local irreducible] timesF xorI swapN scaleN elimN addN findN colsN
set_option maxRecDepth 20000 in
set_option maxHeartbeats 20000000 in
theorem reduce_vc (m : Int) (n c w : Nat) (l0 : List Int) (hn : n ≤ 32) (hc : c ≤ 32) (hw : w ≤ c) (hl : l0.length = n * c) (hi : In16 l0) (K : MM → AV → Prop)
    (hK : ∀ l' ps k, l' = (redS m n c l0 w).1 → ps = (redS m n c l0 w).2 → k = ps.length → K [(1048576, .row 3 (.ints .i64 l')), (0, .row 3 (.ints .i64 ps))] (.own 0 k)) :
    vcF (mk gl0 noEq spsM4 Tryd.f96.ntmps redMAn) Tryd.f96 [.agg [.d (.v (.int .i64 m)), .d (.v (.int .i64 (n : Int))), .d (.v (.int .i64 (c : Int))), .own 1048576 (n * c)], .d (.v (.int .i64 (w : Int)))] [(1048576, .row 3 (.ints .i64 l0))] [4] K := by
  repeat' (first | refine And.intro ?_ ?_ | intro _ | (refine brK_id ?_; first | with_reducible refine brK_t ?_ | with_reducible refine brK_f ?_ | with_reducible refine brK_dec ?_ ?_ | with_reducible refine brK_ndec ?_ ?_ | refine brK_of ?_ ?_) | exact True.intro | refine hK _ _ _ ?_ ?_ ?_ | refine ExL.intro (id := 3) (redL3 m n c w l0) ?_ | refine ExL.intro (id := 8) (redL8 n c (redS m n c l0 (by assumption : RJ).j).1 (redS m n c l0 (by assumption : RJ).j).2.length (by assumption : RJ).j) ?_ | refine ExL.intro (id := 13) (redL13 m c (by assumption : List Int) (redS m n c l0 (by assumption : RJ).j).2.length (InvF m ((by assumption : List Int).getD ((redS m n c l0 (by assumption : RJ).j).2.length * c + (by assumption : RJ).j) 0))) ?_ | refine ExL.intro (id := 18) (redL18 m n c (scaleN m (InvF m ((by assumption : List Int).getD ((redS m n c l0 (by assumption : RJ).j).2.length * c + (by assumption : RJ).j) 0)) ((redS m n c l0 (by assumption : RJ).j).2.length * c) c (by assumption : List Int)) (redS m n c l0 (by assumption : RJ).j).2.length (by assumption : RJ).j) ?_ | refine Exists.intro (RE.mk ((by assumption : RE).e + 1)) ?_ | refine Exists.intro (RK.mk ((by assumption : RK).k + 1)) ?_ | refine Exists.intro (RI.mk ((by assumption : RI).i + 1)) ?_ | refine Exists.intro (RJ.mk ((by assumption : RJ).j + 1)) ?_)
  all_goals (try (refine ⟨?_⟩))
  all_goals (try with_reducible rfl)
  all_goals (try (exact ⟨by kernel_rfl, by kernel_rfl⟩))
  all_goals (try simp only [Int.toNat_natCast, DV.len, maxBytes, List.length_append, List.length_cons, List.length_nil] at *)
  all_goals (try (have hS := redS_ok (m := m) hl hi (by assumption : RJ).j))
  all_goals (try (have hsw := ‹_ = swapN _ _ _ _›))
  all_goals (try (have hw1 := swapN_len ((by assumption : RI).i * c) ((redS m n c l0 (by assumption : RJ).j).2.length * c) c (redS m n c l0 (by assumption : RJ).j).1))
  all_goals (try (rw [← hsw, hS.1] at hw1))
  all_goals (try (have hw2 := swapN_in (o1 := (by assumption : RI).i * c) (o2 := (redS m n c l0 (by assumption : RJ).j).2.length * c) c hS.2.1))
  all_goals (try (rw [← hsw] at hw2))
  all_goals (try (unfold in64))
  all_goals (try omega)
  all_goals (try (exact ⟨by omega, by omega, by omega, by omega, rb (by omega)⟩))
  all_goals (try (exact ⟨by omega, by omega, by omega, by omega, by omega, by omega, rb (by omega), rb (by omega), hS.1.symm⟩))
  all_goals (try (simp only [scaleN_len, elimN_len, hw1, hS.1]; exact rb2 (by omega) (by omega)))
  all_goals (try (refine ⟨trivial, ?_, ?_, by omega, elimN_in _ (scaleN_in _ hw2)⟩ <;> simp only [scaleN_len, elimN_len, hw1] <;> exact rb3 (by omega)))
  all_goals (try (refine ⟨rfl, ?_, ?_, by omega, elimN_in _ (scaleN_in _ hw2)⟩ <;> simp only [scaleN_len, elimN_len, hw1] <;> exact rb3 (by omega)))
  all_goals (try (simp only [elimN]; rw [if_neg (by omega)]; assumption))
  all_goals (try (simp only [elimN]; rw [if_pos (by omega)]; done))
  all_goals (try (exact rfl))
  all_goals (try (exact ⟨trivial, trivial, rfl, by decide⟩))
  all_goals (try (rw [redS_zero]; done))
  all_goals (try (exact ⟨Nat.le_refl _, hS.2.2, trivial⟩))
  all_goals (try (simp only [scaleN]; done))
  all_goals (try (simp only [elimN]; rw [show (by assumption : RK).k = c by omega]; done))
  all_goals (try (have hiv := (‹_ ∧ _ ∧ findN _ _ _ _ _ = findN _ _ _ _ _› : (redS m n c l0 (by assumption : RJ).j).2.length ≤ (by assumption : RI).i ∧ (by assumption : RI).i ≤ n ∧ findN c (by assumption : RJ).j (redS m n c l0 (by assumption : RJ).j).1 (n - (by assumption : RI).i) (by assumption : RI).i = findN c (by assumption : RJ).j (redS m n c l0 (by assumption : RJ).j).1 (n - (redS m n c l0 (by assumption : RJ).j).2.length) (redS m n c l0 (by assumption : RJ).j).2.length)))
  all_goals (try (rw [redS_none (by rw [← hiv.2.2, find_end (by omega)])]; done))
  all_goals (try (have hso := redS_some (i := (by assumption : RI).i) (by rw [← hiv.2.2, find_step (by omega), if_neg (by assumption)]) hsw))
  all_goals (try (rw [hso]; simp only [List.length_append, List.length_cons, List.length_nil]; done))
  all_goals (try (rw [hso]; rw [show (by assumption : RE).e = n by omega]; done))
  all_goals (try (rw [hso]; done))
  all_goals (try (exact ⟨⟨by omega, by omega, by rw [← hiv.2.2, find_step (by omega), if_pos (by assumption)]⟩, by omega⟩))
  all_goals (try (rw [show (by assumption : RJ).j = w by omega]; done))
  all_goals (try (rw [redS_zero]; rfl))
  all_goals (try (have hk : (by assumption : RK).k = c := by omega))
  all_goals (try (simp only [elimN]; rw [hk]; done))
  all_goals (try (have he : (by assumption : RE).e = n := by omega))
  all_goals (try (rw [hso, he]; done))
  all_goals (try (exact ⟨⟨by omega, by omega, by rw [← hiv.2.2, find_step (i := (by assumption : RI).i) (by omega), if_pos (by assumption)]⟩, by omega⟩))
  all_goals (try (have hj : (by assumption : RJ).j = w := by omega))
  all_goals (try (rw [hj]; done))
  all_goals (refine ⟨⟨Nat.le_succ_of_le hiv.1, by have := hiv.2.1; omega, ?_⟩, by have := hiv.2.1; omega⟩)
  all_goals (exact find_next (by have := hiv.2.1; omega) (by assumption) hiv.2.2)
end Go.Proofs.YtgdcefohfebleaaDoor.V
