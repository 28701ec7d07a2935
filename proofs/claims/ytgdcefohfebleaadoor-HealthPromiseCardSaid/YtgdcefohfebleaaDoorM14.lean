/-
  Proved here, step by step for the theorem UW: distance.subsets: the iterator
  Conditions: those that stand in each theorem.
-/
import Derived.Test.YtgdcefohfebleaaDoorM13
/- distance.subsets: the iterator -/
set_option linter.unusedVariables false
set_option linter.unusedSimpArgs false
namespace Go.Proofs.YtgdcefohfebleaaDoor.V
open Go Go.Proofs

/-! ### which sets come, and the first of them that fails -/
def fbL (g : Nat → List Int → Option (List Int)) (l : List Int) (set : List Int) : Nat → Nat → Option (List Int)
  | 0, _ => none
  | n + 1, i => match g (i + 1) (set ++ [l.getD i 0]) with
    | some s => some s
    | none => fbL g l set n (i + 1)
def fb (l : List Int) (p : List Int → Bool) : Nat → Nat → List Int → Option (List Int)
  | 0, _, set => if p set = true then none else some set
  | d + 1, i, set => fbL (fb l p d) l set (l.length - i) i
theorem fb_end {l : List Int} {p : List Int → Bool} {d i : Nat} {set : List Int} (h : l.length ≤ i) : fb l p (d + 1) i set = none := by
  simp only [fb]
  rw [show l.length - i = 0 by omega]
  rfl
theorem fb_step {l : List Int} {p : List Int → Bool} {d i : Nat} {set : List Int} (h : i < l.length) :
    fb l p (d + 1) i set = match fb l p d (i + 1) (set ++ [l.getD i 0]) with | some s => some s | none => fb l p (d + 1) (i + 1) set := by
  simp only [fb]
  rw [show l.length - i = (l.length - (i + 1)) + 1 by omega]
  rfl

/-! ### the state -/
/-- the slots of distance.search that its rounds use -/
def ycap : List AV := [.top, .top, .bp 1048580 0, .bp 1048579 0, .bp 1048578 0, .bp 1048577 0, .top, .bp 1048576 0, .top, .top, .top, .top, .top, .top, .top, .top, .top, .top, .top, .top, .top, .top, .top, .top, .top, .top, .top, .top, .top, .top, .top, .top, .top, .top, .top, .top, .top, .top, .top, .top, .top, .top, .top, .top, .top]
structure SP where
  c : Cod
  h : List Bool
  f : Int
  T : List Value
  r : Loop
  p : List Int → Bool
  l : List Int
  k : Int
/-- the record once a round has left by a return -/
def lpRet (r : Loop) : Loop := { r with state := .done, pending := some .ret }
def my0 (s : SP) : MM := [(1048576, .box [.d (.v (.int .i64 s.f))]), (1048577, .box [.d (.v (.slice none 0 0))]), (1048578, .box [.d (.v (.int .i64 0))]), (1048579, .box [.d (.bools s.h)]), (1048580, .box (codCells s.c)), (1048581, .lp s.r)]
def my1 (s : SP) (x : List Int) : MM := [(1048576, .box [.d (.v (.int .i64 s.f))]), (1048577, .box [.d (.ints .i64 x)]), (1048578, .box [.d (.v (.int .i64 s.f))]), (1048579, .box [.d (.bools s.h)]), (1048580, .box (codCells s.c)), (1048581, .lp (lpRet s.r))]
/-- what a round does -/
def CyF (s : SP) (args : List AV) (mm : MM) (K : MM → AV → Prop) : Prop :=
  ∃ x, args = [.yl 1048581 s.T ycap, .d (.ints .i64 x)] ∧ mm = my0 s ∧ ((∀ u ∈ x, u ∈ s.l) ∧ x.length ≤ 1000) ∧ (s.p x = true → K (my0 s) (.d (.v (.bool true)))) ∧ (s.p x = false → K (my1 s x) (.d (.v (.bool false))))
theorem cy_go {s : SP} {x : List Int} {K : MM → AV → Prop} (hx : (∀ u ∈ x, u ∈ s.l) ∧ x.length ≤ 1000) (ht : s.p x = true → K (my0 s) (.d (.v (.bool true)))) (hf : s.p x = false → K (my1 s x) (.d (.v (.bool false)))) :
    CyF s [.yl 1048581 s.T ycap, .d (.ints .i64 x)] (my0 s) K := ⟨x, rfl, rfl, hx, ht, hf⟩
def frTail (s : SP) : MM := [(1048582, .box [.fn 119 [.bp 1048585 0, .bp 1048584 0, .bp 1048583 0, .bp 1048582 0]]), (1048583, .box [.d (.ints .i64 s.l)]), (1048584, .box [.yl 1048581 s.T ycap]), (1048585, .box [.d (.v (.int .i64 s.k))])]
def mf0 (s : SP) : MM := my0 s ++ frTail s
def mf1 (s : SP) (x : List Int) : MM := my1 s x ++ frTail s
def setOf (a : AV) (K : List Int → Prop) : Prop :=
  match a with
  | .d (.ints .i64 l) => K l
  | .d (.v (.slice none 0 0)) => K []
  | _ => False
/-- subsets' inner function, with d elements to come -/
def C119 (d : Nat) (args : List AV) (mm : MM) (K : MM → AV → Prop) : Prop :=
  ∃ (s : SP) (i : Nat) (a : AV) (set : List Int), args = [.d (.v (.int .i64 (i : Int))), a, .bp 1048585 0, .bp 1048584 0, .bp 1048583 0, .bp 1048582 0] ∧ (a = .d (.ints .i64 set) ∨ a = .d (.v (.slice none 0 0)) ∧ set = []) ∧ mm = mf0 s ∧
    YMeets P0 gl0 (CyF s) ∧ ((set.length : Int) + (d : Int) = s.k ∧ ∀ u ∈ set, u ∈ s.l) ∧ s.k ≤ 1000 ∧ i ≤ s.l.length ∧ s.l.length ≤ 1000000 ∧
    (fb s.l s.p d i set = none → K (mf0 s) (.d (.v (.bool true)))) ∧ (∀ x, fb s.l s.p d i set = some x → K (mf1 s x) (.d (.v (.bool false))))
theorem c119_go {d : Nat} {s : SP} {i : Nat} {j : Int} {set : List Int} {K : MM → AV → Prop} (hj : j = (i : Int)) (hy : YMeets P0 gl0 (CyF s)) (hd : (set.length : Int) + (d : Int) = s.k) (hx : ∀ u ∈ set, u ∈ s.l) (hk : s.k ≤ 1000) (hi : i ≤ s.l.length) (hl : s.l.length ≤ 1000000)
    (ht : fb s.l s.p d i set = none → K (mf0 s) (.d (.v (.bool true)))) (hf : ∀ x, fb s.l s.p d i set = some x → K (mf1 s x) (.d (.v (.bool false)))) :
    C119 d [.d (.v (.int .i64 j)), .d (.ints .i64 set), .bp 1048585 0, .bp 1048584 0, .bp 1048583 0, .bp 1048582 0] (mf0 s) K := by
  subst hj
  exact ⟨s, i, _, set, rfl, .inl rfl, rfl, hy, ⟨hd, hx⟩, hk, hi, hl, ht, hf⟩
attribute [irreducible] CyF C119
def plan2 : Plan := .take 0 (.take 1 (.alt 2 (.alt 3 (.take 4 (.done)) (.done)) (.done)))
def plan5 : Plan := .take 1 (.take 2 (.take 3 (.take 4 (.take 5 (.take 6 (.take 7 (.take 8 (.take 10 (.alt 0 (.alt 9 (.take 11 (.alt 12 (.alt 13 (.alt 14 (.alt 15 (.take 16 (.done)) (.done)) (.done)) (.done)) (.done))) (.done)) (.alt 9 (.take 11 (.alt 0 (.alt 12 (.alt 13 (.alt 14 (.alt 15 (.take 16 (.done)) (.done)) (.done)) (.done)) (.done)) (.alt 12 (.alt 0 (.alt 13 (.alt 14 (.alt 15 (.take 16 (.done)) (.done)) (.done)) (.done)) (.alt 13 (.alt 0 (.alt 14 (.alt 15 (.take 16 (.done)) (.done)) (.done)) (.alt 14 (.take 0 (.alt 15 (.take 16 (.done)) (.done))) (.done))) (.done))) (.done)))) (.done)))))))))))
def frAn : An := { plan := fun k => bif Nat.beq k 2 then some plan2 else (bif Nat.beq k 5 then some plan5 else none) }
def frL (s : SP) (d : Nat) (set : List Int) (i0 : Nat) : LAnn := { ι := Nat, nils := [], vars := fun j => [(0, .d (.v (.int .i64 (j : Int))))], mem := fun _ => mf0 s, inv := fun j => j ≤ s.l.length ∧ fb s.l s.p d j set = fb s.l s.p d i0 set, init := i0, meas := fun j => s.l.length - j }
def spsFr (d : Nat) : List (Nat × SpecE) := [(119, .mix (C119 d)), (69, .data clIC)]
theorem spsFr_ok {d : Nat} (h : Meets P0 gl0 119 (.mix (C119 d))) : SpsOk gl0 (spsFr d) := (((SpsOk.nil gl0).cons ⟨Tryd.f69, Tryd.func69, by decide, rfl⟩ clI_ok).cons ⟨Tryd.f119, Tryd.func119, by decide, rfl⟩ h)
def spsFr0 : List (Nat × SpecE) := [(69, .data clIC)]
theorem spsFr0_ok : SpsOk gl0 spsFr0 := (SpsOk.nil gl0).cons ⟨Tryd.f69, Tryd.func69, by decide, rfl⟩ clI_ok
attribute [local irreducible] fb
theorem out64 {n : Nat} (h : n ≤ 1000000) : in64 (n : Int) := by unfold in64; omega
set_option maxHeartbeats 4000000 in
set_option maxRecDepth 20000 in
theorem from0 : Meets P0 gl0 119 (.mix (C119 0)) := by
  intro args mm K h0
  unfold C119 at h0
  obtain ⟨s, i, a, set, rfl, ha, rfl, hy, ⟨hd, hx⟩, hk, hi, hl, ht, hf⟩ := h0
  refine Does.conv (args' := [.d (.v (.int .i64 (i : Int))), .d (.ints .i64 set), .bp 1048585 0, .bp 1048584 0, .bp 1048583 0, .bp 1048582 0]) (Les.cons (Le.refl _) (Les.cons (by rcases ha with rfl | ⟨rfl, rfl⟩; exact Le.refl _; exact (DLe.nil_ints .i64).le) (Les.refl _))) ?_
  have h1 : (∃ x, x = set ∧ s.p x = true) → K (mf0 s) (.d (.v (.bool true))) := fun ⟨x, e, h⟩ => ht (by subst e; unfold fb; rw [if_pos h])
  have h2 : ∀ x, x = set → s.p x = false → K (mf1 s x) (.d (.v (.bool false))) := fun x e h => hf x (by subst e; unfold fb; rw [if_neg (by rw [h]; simp)])
  refine does_mkY noEq_ok spsFr0_ok Tryd.func119 frAn (fun i g s h => by cases h) (CyF s) hy [] ?_
  repeat' (first | refine And.intro ?_ ?_ | intro _ | (refine brK_id ?_; refine brK_dec (fun _ => ?_) (fun hne => absurd (by omega) hne)) | (refine brK_id ?_; first | with_reducible refine brK_t ?_ | with_reducible refine brK_f ?_ | with_reducible refine brK_dec ?_ ?_ | with_reducible refine brK_ndec ?_ ?_ | refine brK_of ?_ ?_) | exact True.intro | (refine cy_go ?_ (fun _ => ?_) (fun _ => ?_)) | (refine h1 ?_) | (refine h2 _ ?_ ?_) | fail)
  all_goals (try (refine ⟨?_⟩))
  all_goals (try with_reducible rfl)
  all_goals (try assumption)
  all_goals (try (exact ⟨by kernel_rfl, by kernel_rfl⟩))
  all_goals (try simp only [big, DV.len] at *)
  all_goals (try omega)
  all_goals (try (exact ⟨_, by assumption, by assumption⟩))
  all_goals (try (rename_i e1 e2; rw [e2, e1]; done))
  all_goals (try (rename_i e1 e2 u hu; rw [e1] at hu; exact hx _ hu))
  all_goals (try (rename_i e1 e2; rw [e1]; omega))
theorem sub_app {l set : List Int} (h : ∀ u ∈ set, u ∈ l) {i : Nat} (hi : (i : Int) < (l.length : Int)) : ∀ u ∈ (set.take (set.length : Int).toNat).drop (0 : Int).toNat ++ [l.getD (i : Int).toNat 0], u ∈ l := by
  intro u hu
  simp only [Int.toNat_natCast, List.take_length, Int.toNat_zero, List.drop_zero, List.mem_append, List.mem_singleton] at hu
  rcases hu with hu | rfl
  · exact h u hu
  · rw [List.getD_eq_getElem?_getD, List.getElem?_eq_getElem (by omega)]; exact List.getElem_mem _
set_option maxHeartbeats 20000000 in
set_option maxRecDepth 20000 in
theorem fromS (d : Nat) (ih : Meets P0 gl0 119 (.mix (C119 d))) : Meets P0 gl0 119 (.mix (C119 (d + 1))) := by
  intro args mm K h0
  unfold C119 at h0
  obtain ⟨s, i, a, set, rfl, ha, rfl, hy, ⟨hd, hx⟩, hk, hi, hl, ht, hf⟩ := h0
  refine Does.conv (args' := [.d (.v (.int .i64 (i : Int))), .d (.ints .i64 set), .bp 1048585 0, .bp 1048584 0, .bp 1048583 0, .bp 1048582 0]) (Les.cons (Le.refl _) (Les.cons (by rcases ha with rfl | ⟨rfl, rfl⟩; exact Le.refl _; exact (DLe.nil_ints .i64).le) (Les.refl _))) ?_
  have hK1 : (fb s.l s.p (d + 1) i set = none) → K (mf0 s) (.d (.v (.bool true))) := ht
  have hK2 : ∀ x, fb s.l s.p (d + 1) i set = some x → K (mf1 s x) (.d (.v (.bool false))) := hf
  refine does_mkY noEq_ok (spsFr_ok ih) Tryd.func119 frAn (fun i g s h => by cases h) (CyF s) hy [] ?_
  repeat' (first | refine And.intro ?_ ?_ | intro _ | (refine brK_id ?_; refine brK_dec (fun he => absurd he (by omega)) (fun _ => ?_)) | (refine brK_id ?_; refine brK_not ?_; first | with_reducible refine brK_t ?_ | with_reducible refine brK_f ?_) | (refine brK_id ?_; first | with_reducible refine brK_t ?_ | with_reducible refine brK_f ?_ | with_reducible refine brK_dec ?_ ?_ | with_reducible refine brK_ndec ?_ ?_ | refine brK_of ?_ ?_) | exact True.intro | (refine c119_go (s := s) (i := Nat.succ (by assumption)) ?_ hy ?_ (sub_app hx (by omega)) hk ?_ hl (fun _ => ?_) (fun _ _ => ?_)) | (refine hK1 ?_) | (refine hK2 _ ?_) | refine ExL.intro (id := 3) (frL s (d + 1) set i) ?_ | refine Exists.intro (α := Nat) (Nat.succ (by assumption)) ?_ | fail)
  all_goals (try (refine ⟨?_⟩))
  all_goals (try with_reducible rfl)
  all_goals (try (exact ⟨by kernel_rfl, by kernel_rfl⟩))
  all_goals (try (exact ⟨hi, rfl⟩))
  all_goals (try simp only [Int.toNat_natCast, DV.len, maxBytes, big, List.take_length, List.drop_zero, Int.toNat_zero, List.length_append, List.length_cons, List.length_nil, Nat.succ_eq_add_one] at *)
  all_goals (try omega)
  all_goals (try (unfold in64; omega))
  all_goals (try (exact ⟨rfl, rfl⟩))
  all_goals (try (exact ⟨by omega, by omega, by omega, trivial⟩))
  all_goals (try (exact ⟨trivial, trivial⟩))
  all_goals (try rfl)
  all_goals (have hb := (by assumption : _ ∧ fb _ _ _ _ _ = _).2)
  all_goals (try (rw [← hb, fb_end (by omega)]; done))
  all_goals (have hst := fb_step (l := s.l) (p := s.p) (d := d) (i := (by assumption : Nat)) (set := set) (by omega))
  all_goals (try (rw [← hb, hst]; simp only [*]; done))
  all_goals (try (refine ⟨⟨by omega, by rw [← hb, hst]; simp only [*]⟩, by omega⟩))
theorem from_ok : ∀ d, Meets P0 gl0 119 (.mix (C119 d))
  | 0 => from0
  | d + 1 => fromS d (from_ok d)
end Go.Proofs.YtgdcefohfebleaaDoor.V
