/-
  Proved here, step by step for the theorem UW: distance.subsets: what a call of it, and of its iterator, does; distance.search; distance.Left; health.Left, Full; cmp.Compare, Or; health's comparison; equality of stripes; Blocks told otherwise at a call's begin or end: rows by less.; slices.insertionSortCmpFunc of stripes; slices.stableCmpFunc, SortStableFunc of fewer than 20 stripes; IndexFunc, DeleteFunc, Clone of stripes; slices.DeleteFunc, Clone of stripes; health.Order (fewer than 20 stripes)
  Conditions: those that stand in each theorem.
-/
import Derived.Laws.StructEq
import Derived.Test.YtgdcefohfebleaaDoorM10
import Derived.Test.YtgdcefohfebleaaDoorM14
/- distance.subsets: what a call of it, and of its iterator, does -/
set_option linter.unusedVariables false
set_option linter.unusedSimpArgs false
namespace Go.Proofs.YtgdcefohfebleaaDoor.V
open Go Go.Proofs

/-- the slots of distance.search that its rounds use, as the iterator is handed them -/
def ycapI : List AV := [.top, .top, .bp 1048582 0, .bp 1048581 0, .bp 1048580 0, .bp 1048579 0, .top, .bp 1048578 0, .top, .top, .top, .top, .top, .top, .top, .top, .top, .top, .top, .top, .top, .top, .top, .top, .top, .top, .top, .top, .top, .top, .top, .top, .top, .top, .top, .top, .top, .top, .top, .top, .top, .top, .top, .top, .top]
def mi0 (s : SP) : MM := [(1048576, .box [.d (.ints .i64 s.l)]), (1048577, .box [.d (.v (.int .i64 s.k))]), (1048578, .box [.d (.v (.int .i64 s.f))]), (1048579, .box [.d (.v (.slice none 0 0))]), (1048580, .box [.d (.v (.int .i64 0))]), (1048581, .box [.d (.bools s.h)]), (1048582, .box (codCells s.c)), (1048583, .lp s.r)]
def mi1 (s : SP) (x : List Int) : MM := [(1048576, .box [.d (.ints .i64 s.l)]), (1048577, .box [.d (.v (.int .i64 s.k))]), (1048578, .box [.d (.v (.int .i64 s.f))]), (1048579, .box [.d (.ints .i64 x)]), (1048580, .box [.d (.v (.int .i64 s.f))]), (1048581, .box [.d (.bools s.h)]), (1048582, .box (codCells s.c)), (1048583, .lp (lpRet s.r))]
def C118 (args : List AV) (mm : MM) (K : MM → AV → Prop) : Prop :=
  ∃ s : SP, args = [.yl 1048583 s.T ycapI, .bp 1048577 0, .bp 1048576 0] ∧ mm = mi0 s ∧ YMeets P0 gl0 (CyF s) ∧ 0 ≤ s.k ∧ s.k ≤ 1000 ∧ s.l.length ≤ 1000000 ∧
    (fb s.l s.p s.k.toNat 0 [] = none → K (mi0 s) (.tup [])) ∧ (∀ x, fb s.l s.p s.k.toNat 0 [] = some x → K (mi1 s x) (.tup []))
theorem c118_go {c : Cod} {h : List Bool} {f : Int} {T : List Value} {r : Loop} {p : List Int → Bool} {l : List Int} {k : Int} {K : MM → AV → Prop} (hy : YMeets P0 gl0 (CyF ⟨c, h, f, T, r, p, l, k⟩)) (hk0 : 0 ≤ k) (hk : k ≤ 1000) (hl : l.length ≤ 1000000)
    (ht : fb l p k.toNat 0 [] = none → K (mi0 ⟨c, h, f, T, r, p, l, k⟩) (.tup [])) (hf : ∀ x, fb l p k.toNat 0 [] = some x → K (mi1 ⟨c, h, f, T, r, p, l, k⟩ x) (.tup [])) :
    C118 [.yl 1048583 T ycapI, .bp 1048577 0, .bp 1048576 0] (mi0 ⟨c, h, f, T, r, p, l, k⟩) K := ⟨⟨c, h, f, T, r, p, l, k⟩, rfl, rfl, hy, hk0, hk, hl, ht, hf⟩
attribute [irreducible] C118
theorem c119_nil {d : Nat} {s : SP} {K : MM → AV → Prop} (hy : YMeets P0 gl0 (CyF s)) (hd : (d : Int) = s.k) (hk : s.k ≤ 1000) (hl : s.l.length ≤ 1000000)
    (ht : fb s.l s.p s.k.toNat 0 [] = none → K (mf0 s) (.d (.v (.bool true)))) (hf : ∀ x, fb s.l s.p s.k.toNat 0 [] = some x → K (mf1 s x) (.d (.v (.bool false)))) :
    C119 d [.d (.v (.int .i64 0)), .d (.v (.slice none 0 0)), .bp 1048585 0, .bp 1048584 0, .bp 1048583 0, .bp 1048582 0] (mf0 s) K := by
  obtain rfl : d = s.k.toNat := by omega
  unfold C119
  exact ⟨s, 0, _, [], rfl, .inr ⟨rfl, rfl⟩, rfl, hy, ⟨by simpa using hd, fun u hu => by cases hu⟩, hk, Nat.zero_le _, hl, ht, hf⟩
attribute [local irreducible] fb
set_option maxHeartbeats 4000000 in
set_option maxRecDepth 20000 in
theorem iter_ok : Meets P0 gl0 118 (.heap C118) := by
  intro args mm K h0
  unfold C118 at h0
  obtain ⟨s, rfl, rfl, hy, hk0, hk, hl, ht, hf⟩ := h0
  refine does_mkY noEq_ok (spsFr_ok (from_ok s.k.toNat)) Tryd.func118 {} (fun i g s h => by cases h) (CyF s) hy [] ?_
  repeat' (first | refine And.intro ?_ ?_ | intro _ | (refine brK_id ?_; first | with_reducible refine brK_t ?_ | with_reducible refine brK_f ?_ | with_reducible refine brK_dec ?_ ?_ | with_reducible refine brK_ndec ?_ ?_ | refine brK_of ?_ ?_) | exact True.intro | (refine c119_nil (s := s) hy ?_ hk hl (fun _ => ?_) (fun _ _ => ?_)) | (refine ht ?_) | (refine hf _ ?_) | fail)
  all_goals (try (refine ⟨?_⟩))
  all_goals (try with_reducible rfl)
  all_goals (try assumption)
  all_goals omega
/-- subsets itself -/
def subC (args : List AV) (K : MM → AV → Prop) : Prop :=
  match args with
  | [.d (.ints .i64 l), .d (.v (.int .i64 k))] => K [(0, .box [.d (.ints .i64 l)]), (1, .box [.d (.v (.int .i64 k))])] (.fn 118 [.bp 1 0, .bp 0 0])
  | _ => False
theorem sub_ok : Meets P0 gl0 98 (.data subC) := by
  intro args K h
  unfold subC at h
  split at h
  · rename_i l k
    refine does_mk noEq_ok (SpsOk.nil gl0) Tryd.func98 {} (fun i g s h => by cases h) [2, 3] ?_
    repeat' (first | exact h | refine And.intro ?_ ?_ | intro _ | (refine brK_id ?_; first | with_reducible refine brK_t ?_ | with_reducible refine brK_f ?_ | with_reducible refine brK_dec ?_ ?_ | with_reducible refine brK_ndec ?_ ?_ | refine brK_of ?_ ?_) | exact True.intro | fail)
    all_goals (try (refine ⟨?_⟩))
    all_goals (try with_reducible rfl)
  · exact h.elim
end Go.Proofs.YtgdcefohfebleaaDoor.V
/- distance.search -/
set_option linter.unusedVariables false
set_option linter.unusedSimpArgs false
namespace Go.Proofs.YtgdcefohfebleaaDoor.V
open Go Go.Proofs

/-- the first loop over a function in a text -/
def rfPick : Code → Option (Code × Code)
  | .rangeFunc _ _ a b => some (a, b)
  | .seq a b => match rfPick a with
    | some r => some r
    | none => rfPick b
  | .cond _ a b => match rfPick a with
    | some r => some r
    | none => rfPick b
  | .block _ c => rfPick c
  | .loop c => rfPick c
  | .scope c => rfPick c
  | _ => none
noncomputable def pick79 : Code × Code := match rfPick (Tryd.f79.body.getD .skip) with
  | some r => r
  | none => (.skip, .skip)
noncomputable def asg79 : Code := pick79.1
noncomputable def bod79 : Code := pick79.2
noncomputable def rec79 (T : List Value) (fn D : Nat) : Loop := { state := .ready, pending := none, fn, tmps := T.toArray, params := #[25], assign := asg79, body := bod79, defers := D }
/-- without the units of x, the first i of them -/
def clrN (h : List Bool) (x : List Int) : Nat → List Bool
  | 0 => h
  | i + 1 => (clrN h x i).set (x.getD i 0).toNat false
theorem clrN_len (h : List Bool) (x : List Int) : ∀ i, (clrN h x i).length = h.length
  | 0 => rfl
  | i + 1 => by rw [clrN, List.length_set, clrN_len h x i]
theorem clrN_zero (h : List Bool) (x : List Int) : clrN h x 0 = h := rfl
theorem clrN_succ (h : List Bool) (x : List Int) (i : Nat) : clrN h x (i + 1) = (clrN h x i).set (x.getD i 0).toNat false := rfl
def clrF (h : List Bool) (x : List Int) : List Bool := clrN h x x.length
/-- the set may be spared -/
def spare (c : Cod) (h : List Bool) (x : List Int) : Bool := decF c (clrF h x)
def rdL (h : List Bool) (x : List Int) : LAnn := { ι := BI, nils := [], vars := fun y => [(30, .d (.v (.int .i64 (y.i : Int))))], mem := fun y => [(27, .row 4 (.bools (clrN h x y.i)))], inv := fun y => y.i ≤ x.length, init := ⟨0⟩, meas := fun y => x.length - y.i }
def spsR1 : List (Nat × SpecE) := [(20, .lend decC), (99, .data clBC)]
theorem spsR1_ok : SpsOk gl0 spsR1 := (((SpsOk.nil gl0).cons ⟨Tryd.f99, Tryd.func99, by decide, rfl⟩ clB_ok).cons ⟨Tryd.f20, Tryd.func20, by decide, rfl⟩ dec_ok)
attribute [local irreducible] decF clrN
set_option maxHeartbeats 4000000 in
set_option maxRecDepth 20000 in
theorem round_ok (c : Cod) (h : List Bool) (f : Int) (T : List Value) (fn D : Nat) (l : List Int) (k : Int) (hh : h.length ≤ 1000000) (hl : l.length ≤ 1000000) (hu : ∀ u ∈ l, 0 ≤ u ∧ u < (h.length : Int)) :
    YMeets P0 gl0 (CyF ⟨c, h, f, T, rec79 T fn D, spare c h, l, k⟩) := by
  intro args mm K h0
  unfold CyF at h0
  obtain ⟨x, rfl, rfl, ⟨hx, hxl⟩, ht, hf⟩ := h0
  have hg : ∀ i, i < x.length → 0 ≤ x.getD i 0 ∧ x.getD i 0 < (h.length : Int) := fun i hi => hu _ (hx _ (by
    rw [List.getD_eq_getElem?_getD, List.getElem?_eq_getElem hi]; exact List.getElem_mem _))
  refine ydoes_mk noEq_ok spsR1_ok 45 {} (fun i g s h => by cases h) (rec := rec79 T fn D) rfl rfl rfl (by kernel_rfl) (by kernel_rfl) [] ?_
  repeat' (first | refine And.intro ?_ ?_ | intro _ | (refine brK_id ?_; first | with_reducible refine brK_t ?_ | with_reducible refine brK_f ?_ | with_reducible refine brK_dec ?_ ?_ | with_reducible refine brK_ndec ?_ ?_ | refine brK_of ?_ ?_) | exact True.intro | (refine ht ?_) | (refine hf ?_) | refine ExL.intro (id := 11) (rdL h x) ?_ | refine Exists.intro (BI.mk ((by assumption : BI).i + 1)) ?_ | refine Exists.intro (α := List (List Int)) c.parity ?_ | fail)
  all_goals (try (refine ⟨?_⟩))
  all_goals (try with_reducible rfl)
  all_goals (try (exact ⟨by assumption⟩))
  all_goals (try (exact Rows.self _))
  all_goals (try (exact (clrN_succ _ _ _).symm))
  all_goals (try (rw [clrN_zero]; assumption))
  all_goals (try simp only [Int.toNat_natCast, big, Nat.succ_eq_add_one, DV.len, clrN_len] at *)
  all_goals (try omega)
  all_goals (try (unfold in64; omega))
  all_goals (try rfl)
  all_goals (try (have hb := hg (by assumption : BI).i (by omega); omega))
  all_goals (try (have hb := hg (by assumption : BI).i (by omega); exact ⟨by omega, by omega⟩))
  all_goals (have hi : (by assumption : BI).i = x.length := by omega)
  all_goals (rename_i h3)
  all_goals (rw [hi] at h3)
  · have h3 : (!decF c (clrN h x x.length)) = true := h3
    show decF c (clrN h x x.length) = false
    cases hq : decF c (clrN h x x.length) with
    | false => rfl
    | true => rw [hq] at h3; cases h3
  · have h3 : (!decF c (clrN h x x.length)) = false := h3
    show decF c (clrN h x x.length) = true
    cases hq : decF c (clrN h x x.length) with
    | true => rfl
    | false => rw [hq] at h3; cases h3
/-! ### search -/
/-- the first smallest set that may not be spared, of more than i units and at most four -/
def seaF (c : Cod) (h : List Bool) : Nat → Nat → Int × Option (List Int)
  | 0, i => ((i : Int), none)
  | n + 1, i => match fb (presN h h.length) (spare c h) (i + 1) 0 [] with
    | some x => ((i : Int), some x)
    | none => seaF c h n (i + 1)
def searchF (c : Cod) (h : List Bool) : Int × Option (List Int) := if decF c h = true then seaF c h 4 0 else (-1, none)
def searchC (args : List AV) (K : AV → Prop) : Prop :=
  match args with
  | [a, .d (.bools h)] => codK a fun c => Ob (h.length ≤ 1000000) ∧ (∀ f, searchF c h = (f, none) → K (.tup [.d (.v (.int .i64 f)), .d (.v (.slice none 0 0))])) ∧ (∀ f x, searchF c h = (f, some x) → K (.tup [.d (.v (.int .i64 f)), .d (.ints .i64 x)]))
  | _ => False
def spsR2 : List (Nat × SpecE) := [(20, .lend decC), (97, .data fun args K => presC args fun r => K [] r), (98, .data subC), (118, .heap C118)]
theorem spsR2_ok : SpsOk gl0 spsR2 := (((((SpsOk.nil gl0).cons ⟨Tryd.f118, Tryd.func118, by decide, rfl⟩ iter_ok).cons ⟨Tryd.f98, Tryd.func98, by decide, rfl⟩ sub_ok).cons ⟨Tryd.f97, Tryd.func97, by decide, rfl⟩ pres_ok).cons ⟨Tryd.f20, Tryd.func20, by decide, rfl⟩ dec_ok)
def seaAn : An := { rf := some (100, [2, 3, 4, 5, 7]), nk := fun k => bif Nat.beq k 24 then [101] else [] }
def seaL (c : Cod) (h : List Bool) : LAnn := { ι := BI, nils := [], vars := fun y => [(18, .d (.v (.int .i64 (y.i : Int))))], mem := fun _ => [], inv := fun y => y.i ≤ 4 ∧ seaF c h 4 0 = seaF c h (4 - y.i) y.i, init := ⟨0⟩, meas := fun y => 4 - y.i }
theorem seaF_end (c : Cod) (h : List Bool) (i : Nat) : seaF c h 0 i = ((i : Int), none) := rfl
theorem seaF_step (c : Cod) (h : List Bool) {i : Nat} (hi : i < 4) : seaF c h (4 - i) i = match fb (presN h h.length) (spare c h) (i + 1) 0 [] with
    | some x => ((i : Int), some x)
    | none => seaF c h (4 - (i + 1)) (i + 1) := by
  rw [show 4 - i = (4 - (i + 1)) + 1 by omega]
  rfl
theorem presN_mem (h : List Bool) : ∀ i, i ≤ h.length → ∀ u ∈ presN h i, 0 ≤ u ∧ u < (h.length : Int)
  | 0, _, u, hu => by rw [presN_zero] at hu; cases hu
  | i + 1, hi, u, hu => by
    cases hq : h.getD i false with
    | true =>
      rw [presN_t hq, List.mem_append, List.mem_singleton] at hu
      rcases hu with hu | rfl
      · exact presN_mem h i (by omega) u hu
      · omega
    | false => rw [presN_f hq] at hu; exact presN_mem h i (by omega) u hu
attribute [local irreducible] seaF presN fb YMeets
set_option maxHeartbeats 20000000 in
set_option maxRecDepth 20000 in
theorem search_ok : Meets P0 gl0 79 (.data fun args K => searchC args fun r => K [] r) := Meets.data fun args K h0 => by
  unfold searchC at h0
  split at h0
  · rename_i a h
    obtain ⟨c, ⟨⟨hl⟩, h1⟩, hle⟩ := codK_ok h0
    refine Does.conv (args' := [codAV c, .d (.bools h)]) (Les.cons hle (Les.refl _)) ?_
    have hK1 : ∀ f, searchF c h = (f, none) → ∃ r', Le (.tup [.d (.v (.int .i64 f)), .d (.v (.slice none 0 0))]) r' ∧ K r' := fun f e => ⟨_, Le.refl _, h1.1 f e⟩
    have hK2 : ∀ f x, searchF c h = (f, some x) → ∃ r', Le (.tup [.d (.v (.int .i64 f)), .d (.ints .i64 x)]) r' ∧ K r' := fun f x e => ⟨_, Le.refl _, h1.2 f x e⟩
    refine does_mk noEq_ok spsR2_ok Tryd.func79 seaAn (fun i g s h => by cases h) [] ?_
    repeat' (first | refine And.intro ?_ ?_ | intro _ | (refine brK_id ?_; first | with_reducible refine brK_t ?_ | with_reducible refine brK_f ?_ | with_reducible refine brK_dec ?_ ?_ | with_reducible refine brK_ndec ?_ ?_ | refine brK_of ?_ ?_) | exact True.intro | (refine hK2 _ _ ?_) | (refine hK1 _ ?_) | (refine c118_go (c := c) (h := h) (p := spare c h) ?_ ?_ ?_ ?_ (fun _ => ?_) (fun _ _ => ?_)) | refine ExL.intro (id := 5) (seaL c h) ?_ | refine Exists.intro (BI.mk ((by assumption : BI).i + 1)) ?_ | refine Exists.intro (α := List (List Int)) c.parity ?_ | fail)
    all_goals (try (refine ⟨?_⟩))
    all_goals (try with_reducible rfl)
    all_goals (try (exact Rows.self _))
    all_goals (try (refine round_ok _ _ _ _ _ _ _ _ hl ?_ (presN_mem h _ (Nat.le_refl _))))
    all_goals (try (exact fun q => by cases q))
    all_goals (have hpl := presN_len h h.length)
    all_goals (try simp only [Int.toNat_natCast, Nat.succ_eq_add_one] at *)
    all_goals (try omega)
    all_goals (try (unfold in64; omega))
    all_goals (try (exact ⟨by omega, rfl⟩))
    · rename_i h3
      have h3 : (!decF c h) = true := h3
      unfold searchF
      rw [if_neg (fun q => by rw [q] at h3; cases h3)]
    · exact ⟨by omega, trivial⟩
    · have hinv := (by assumption : _ ∧ seaF c h 4 0 = _)
      have e1 : (((by assumption : BI).i : Int) + 1).toNat = (by assumption : BI).i + 1 := by omega
      have h4 := (by assumption : fb _ _ _ _ _ = none)
      rw [e1] at h4
      refine ⟨⟨by omega, ?_⟩, by omega⟩
      rw [hinv.2, seaF_step c h (by omega), h4]
    · have hinv := (by assumption : _ ∧ seaF c h 4 0 = _)
      have h3 : (!decF c h) = false := by assumption
      have e1 : (((by assumption : BI).i : Int) + 1).toNat = (by assumption : BI).i + 1 := by omega
      rename_i h4
      rw [e1] at h4
      unfold searchF
      rw [if_pos (by cases hq : decF c h with | true => rfl | false => rw [hq] at h3; cases h3), hinv.2, seaF_step c h (by omega), h4]
    · have hinv := (by assumption : _ ∧ seaF c h 4 0 = _)
      have h3 : (!decF c h) = false := by assumption
      unfold searchF
      have hi : (by assumption : BI).i = 4 := by omega
      rw [if_pos (by cases hq : decF c h with | true => rfl | false => rw [hq] at h3; cases h3), hinv.2, hi]
      exact seaF_end c h 4
  · exact h0.elim
end Go.Proofs.YtgdcefohfebleaaDoor.V
/- distance.Left; health.Left, Full -/
set_option linter.unusedVariables false
set_option linter.unusedSimpArgs false
namespace Go.Proofs.YtgdcefohfebleaaDoor.V
open Go Go.Proofs

def leftF (c : Cod) (h : List Bool) : Int := if dvF c h.length = true then (searchF c h).1 else -1
def leftC : List AV → (AV → Prop) → Prop
  | [a, .d (.bools h)], K => codK a fun c => Ob (c.name.size ≤ big ∧ c.parity.length ≤ big ∧ h.length ≤ 1000000) ∧ K (.d (.v (.int .i64 (leftF c h))))
  | _, _ => False
def spsL1 : List (Nat × SpecE) := [(78, .lend dvC), (79, .data fun args K => searchC args fun r => K [] r)]
theorem spsL1_ok : SpsOk gl0 spsL1 := (((SpsOk.nil gl0).cons ⟨Tryd.f79, Tryd.func79, by decide, rfl⟩ search_ok).cons ⟨Tryd.f78, Tryd.func78, by decide, rfl⟩ dv_ok)
attribute [local irreducible] searchF dvF
theorem left_ok : Meets P0 gl0 51 (.lend leftC) := by
  intro args K h0
  unfold leftC at h0
  split at h0
  · rename_i a h
    obtain ⟨c, ⟨⟨hs, hp, hl⟩, h1⟩, hle⟩ := codK_ok h0
    refine Does.conv (args' := [codAV c, .d (.bools h)]) (Les.cons hle (Les.refl _)) ?_
    have hK : ∀ b, b = leftF c h → K (.d (.v (.int .i64 b))) := fun b hb => by rw [hb]; exact h1
    refine does_mk noEq_ok spsL1_ok Tryd.func51 {} (fun i g s h => by cases h) [] ?_
    repeat' (first | refine And.intro ?_ ?_ | intro _ | (refine brK_id ?_; first | with_reducible refine brK_t ?_ | with_reducible refine brK_f ?_ | with_reducible refine brK_dec ?_ ?_ | with_reducible refine brK_ndec ?_ ?_ | refine brK_of ?_ ?_) | exact True.intro | refine hK _ ?_ | refine Exists.intro (α := List (List Int)) c.parity ?_ | fail)
    all_goals (try (refine ⟨?_⟩))
    all_goals (try with_reducible rfl)
    all_goals (try (exact Rows.self _))
    all_goals (try (exact ⟨hs, hp⟩))
    all_goals (try assumption)
    · rename_i h3
      have h3 : (!dvF c h.length) = true := h3
      unfold leftF
      rw [if_neg (fun q => by rw [q] at h3; cases h3)]
    all_goals (have h3 : (!dvF c h.length) = false := by assumption)
    all_goals (unfold leftF; rw [if_pos (by cases hq : dvF c h.length with | true => rfl | false => rw [hq] at h3; cases h3)]; simp only [*])
  · exact h0.elim
/-- health.Left -/
theorem haveF_len (l : List Int) : (haveF l).length = l.length := by unfold haveF; rw [List.length_map]
def hLeftF (c : Cod) (l : List Int) : Int := leftF c (haveF l)
def hLeftC : List AV → (AV → Prop) → Prop
  | [a, .d (.ints .i64 l)], K => codK a fun c => Ob (c.name.size ≤ big ∧ c.parity.length ≤ big ∧ l.length ≤ 1000) ∧ K (.d (.v (.int .i64 (hLeftF c l))))
  | _, _ => False
def planHL : Plan := .take 0 (.take 1 (.alt 2 (.alt 3 (.take 4 (.done)) (.done)) (.done)))
def spsL2 : List (Nat × SpecE) := [(27, .data haveC), (51, .lend leftC)]
theorem spsL2_ok : SpsOk gl0 spsL2 := (((SpsOk.nil gl0).cons ⟨Tryd.f51, Tryd.func51, by decide, rfl⟩ left_ok).cons have_fn (have_ok gl0))
attribute [local irreducible] leftF
theorem hLeft_ok : Meets P0 gl0 26 (.lend hLeftC) := by
  intro args K h0
  unfold hLeftC at h0
  split at h0
  · rename_i a l
    obtain ⟨c, ⟨⟨hs, hp, hl⟩, h1⟩, hle⟩ := codK_ok h0
    refine Does.conv (args' := [codAV c, .d (.ints .i64 l)]) (Les.cons hle (Les.refl _)) ?_
    have hK : ∀ b, b = hLeftF c l → K (.d (.v (.int .i64 b))) := fun b hb => by rw [hb]; exact h1
    refine does_mk noEq_ok spsL2_ok Tryd.func26 { plan := fun k => bif Nat.beq k 1 then some planHL else none } (fun i g s h => by cases h) [] ?_
    repeat' (first | refine And.intro ?_ ?_ | intro _ | (refine brK_id ?_; first | with_reducible refine brK_t ?_ | with_reducible refine brK_f ?_ | with_reducible refine brK_dec ?_ ?_ | with_reducible refine brK_ndec ?_ ?_ | refine brK_of ?_ ?_) | exact True.intro | refine hK _ ?_ | refine Exists.intro (α := List (List Int)) c.parity ?_ | fail)
    all_goals (try (refine ⟨?_⟩))
    all_goals (try with_reducible rfl)
    all_goals (try (exact Rows.self _))
    all_goals (try assumption)
    all_goals (try (exact ⟨by kernel_rfl, by kernel_rfl⟩))
    all_goals (rename_i e1 e2)
    all_goals (subst e1)
    · rw [e2]; exact (haveF_len l).symm
    · exact ⟨hs, hp, by rw [haveF_len]; omega⟩
    · rfl
  · exact h0.elim
/-- health.Full -/
def badU (l : List Int) : Bool := anyF (fun i => !decide (l.getD i 0 = 1)) l.length
def fullF (c : Cod) (l : List Int) : Bool := !badU l && decide (0 ≤ hLeftF c l)
def fullC : List AV → (AV → Prop) → Prop
  | [a, .d (.ints .i64 l)], K => codK a fun c => Ob (c.name.size ≤ big ∧ c.parity.length ≤ big ∧ l.length ≤ 1000) ∧ K (.d (.v (.bool (fullF c l))))
  | _, _ => False
def spsL3a : List (Nat × SpecE) := [(58, .lend C58)]
theorem spsL3a_ok : SpsOk gl0 spsL3a := (SpsOk.nil gl0).cons ⟨Tryd.f58, Tryd.func58, by decide, rfl⟩ ok58
def spsL3 : List (Nat × SpecE) := [(57, .lend (contC (spOf spsL3a))), (26, .lend hLeftC)]
theorem spsL3_ok : SpsOk gl0 spsL3 := (((SpsOk.nil gl0).cons ⟨Tryd.f26, Tryd.func26, by decide, rfl⟩ hLeft_ok).cons ⟨Tryd.f57, Tryd.func57, by decide, rfl⟩ (contC_ok spsL3a_ok))
attribute [local irreducible] hLeftF
theorem full_ok : Meets P0 gl0 31 (.lend fullC) := by
  intro args K h0
  unfold fullC at h0
  split at h0
  · rename_i a l
    obtain ⟨c, ⟨⟨hs, hp, hl⟩, h1⟩, hle⟩ := codK_ok h0
    refine Does.conv (args' := [codAV c, .d (.ints .i64 l)]) (Les.cons hle (Les.refl _)) ?_
    have hK : ∀ b, b = fullF c l → K (.d (.v (.bool b))) := fun b hb => by rw [hb]; exact h1
    refine does_mk noEq_ok spsL3_ok Tryd.func31 {} (fun i g s h => by cases h) [] ?_
    repeat' (first | refine And.intro ?_ ?_ | intro _ | (refine brK_id ?_; first | with_reducible refine brK_t ?_ | with_reducible refine brK_f ?_ | with_reducible refine brK_dec ?_ ?_ | with_reducible refine brK_ndec ?_ ?_ | refine brK_of ?_ ?_) | exact True.intro | refine hK _ ?_ | refine Exists.intro (α := List (List Int)) c.parity ?_ | refine Exists.intro (fun i => !decide (l.getD i 0 = 1)) ?_ | fail)
    all_goals (try (refine ⟨?_⟩))
    all_goals (try with_reducible rfl)
    all_goals (try (exact Rows.self _))
    all_goals (try assumption)
    · omega
    · exact ⟨hs, hp, hl⟩
    · rename_i h3
      have h3 : (!badU l) = true := h3
      unfold fullF; rw [h3]; rfl
    · rename_i h3
      have h3 : (!badU l) = false := h3
      unfold fullF; rw [h3]; rfl
  · exact h0.elim
end Go.Proofs.YtgdcefohfebleaaDoor.V
/- cmp.Compare, Or; health's comparison; equality of stripes -/
set_option linter.unusedVariables false
set_option linter.unusedSimpArgs false
namespace Go.Proofs.YtgdcefohfebleaaDoor.V
open Go Go.Proofs

def nanC : List AV → (AV → Prop) → Prop
  | [.d (.v (.int .i64 _))], K => K (.d (.v (.bool false)))
  | _, _ => False
theorem nan_ok : Meets P0 gl0 102 (.lend nanC) := by
  intro args K h
  unfold nanC at h
  split at h
  · have hK : ∀ b, b = false → K (.d (.v (.bool b))) := fun b hb => by rw [hb]; exact h
    refine does_mk noEq_ok (SpsOk.nil gl0) Tryd.func102 {} (fun i g s h => by cases h) [] ?_
    repeat' (first | refine And.intro ?_ ?_ | intro _ | (refine brK_id ?_; first | with_reducible refine brK_t ?_ | with_reducible refine brK_f ?_ | with_reducible refine brK_dec ?_ ?_ | with_reducible refine brK_ndec ?_ ?_ | refine brK_of ?_ ?_) | exact True.intro | refine hK _ ?_ | fail)
    all_goals (try (refine ⟨?_⟩))
    all_goals (try with_reducible rfl)
    all_goals simp
  · exact h.elim
def cmpI (x y : Int) : Int := if x < y then -1 else if y < x then 1 else 0
def cmpC : List AV → (AV → Prop) → Prop
  | [.d (.v (.int .i64 x)), .d (.v (.int .i64 y))], K => K (.d (.v (.int .i64 (cmpI x y))))
  | _, _ => False
def spsCm1 : List (Nat × SpecE) := [(102, .lend nanC)]
theorem spsCm1_ok : SpsOk gl0 spsCm1 := (SpsOk.nil gl0).cons ⟨Tryd.f102, Tryd.func102, by decide, rfl⟩ nan_ok
theorem cmp_ok : Meets P0 gl0 85 (.lend cmpC) := by
  intro args K h
  unfold cmpC at h
  split at h
  · rename_i x y
    have hK : ∀ b, b = cmpI x y → K (.d (.v (.int .i64 b))) := fun b hb => by rw [hb]; exact h
    refine does_mk noEq_ok spsCm1_ok Tryd.func85 {} (fun i g s h => by cases h) [] ?_
    repeat' (first | refine And.intro ?_ ?_ | intro _ | (refine brK_id ?_; first | with_reducible refine brK_t ?_ | with_reducible refine brK_f ?_ | with_reducible refine brK_dec ?_ ?_ | with_reducible refine brK_ndec ?_ ?_ | refine brK_of ?_ ?_) | exact True.intro | refine hK _ ?_ | fail)
    all_goals (try (refine ⟨?_⟩))
    all_goals (try with_reducible rfl)
    all_goals (unfold cmpI; simp only [*, if_true, if_false])
  · exact h.elim
def orF : List Int → Int
  | [] => 0
  | x :: r => if x = 0 then orF r else x
theorem orF_step (l : List Int) (i : Nat) (h : i < l.length) : orF (l.drop i) = if l.getD i 0 = 0 then orF (l.drop (i + 1)) else l.getD i 0 := by
  rw [List.drop_eq_getElem_cons h]
  simp only [orF, List.getD_eq_getElem?_getD, List.getElem?_eq_getElem h, Option.getD_some]
def orAn (l : List Int) : An := { ann := fun k => bif Nat.beq k 3 then some { ι := BI, nils := [], vars := fun y => [(8, .d (.v (.int .i64 (y.i : Int))))], mem := fun _ => [], inv := fun y => y.i ≤ l.length ∧ orF l = orF (l.drop y.i), init := ⟨0⟩, meas := fun y => l.length - y.i } else none }
def orC : List AV → (AV → Prop) → Prop
  | [.d (.ints .i64 l)], K => Ob (l.length ≤ 1000000) ∧ K (.d (.v (.int .i64 (orF l))))
  | _, _ => False
theorem or_ok : Meets P0 gl0 84 (.lend orC) := by
  intro args K h0
  unfold orC at h0
  split at h0
  · rename_i l
    obtain ⟨⟨hl⟩, h⟩ := h0
    have hK : ∀ b, b = orF l → K (.d (.v (.int .i64 b))) := fun b hb => by rw [hb]; exact h
    refine does_mk noEq_ok (SpsOk.nil gl0) Tryd.func84 (orAn l) (fun i g s h => by cases h) [] ?_
    repeat' (first | refine And.intro ?_ ?_ | intro _ | (refine brK_id ?_; first | with_reducible refine brK_t ?_ | with_reducible refine brK_f ?_ | with_reducible refine brK_dec ?_ ?_ | with_reducible refine brK_ndec ?_ ?_ | refine brK_of ?_ ?_) | exact True.intro | refine hK _ ?_ | refine Exists.intro (BI.mk ((by assumption : BI).i + 1)) ?_ | fail)
    all_goals (try (refine ⟨?_⟩))
    all_goals (try with_reducible rfl)
    all_goals (try simp only [Int.toNat_natCast] at *)
    all_goals (try omega)
    all_goals (try (unfold in64; omega))
    all_goals (try (exact ⟨Nat.zero_le _, rfl⟩))
    all_goals (have hinv := (by assumption : _ ∧ orF l = _))
    · rw [hinv.2, orF_step l _ (by omega), if_neg (by assumption)]
    · exact ⟨⟨by omega, by rw [hinv.2, orF_step l _ (by omega), if_pos (by assumption)]⟩, by omega⟩
    · rw [hinv.2, List.drop_eq_nil_of_le (by omega)]; rfl
  · exact h0.elim
/-- is a stripe lost -/
def lostI (x : Int) : Int := if x < 0 then 1 else 0
def C82 : List AV → (AV → Prop) → Prop
  | [.agg [.d (.v (.int .i64 _)), .d (.v (.int .i64 _)), .d (.v (.int .i64 x)), .d (.v (.int .i64 _))]], K => K (.d (.v (.int .i64 (lostI x))))
  | _, _ => False
theorem ok82 : Meets P0 gl0 82 (.lend C82) := by
  intro args K h
  unfold C82 at h
  split at h
  · rename_i r g x b
    have hK : ∀ b, b = lostI x → K (.d (.v (.int .i64 b))) := fun b hb => by rw [hb]; exact h
    refine does_mk noEq_ok (SpsOk.nil gl0) Tryd.func82 {} (fun i g s h => by cases h) [] ?_
    repeat' (first | refine And.intro ?_ ?_ | intro _ | (refine brK_id ?_; first | with_reducible refine brK_t ?_ | with_reducible refine brK_f ?_ | with_reducible refine brK_dec ?_ ?_ | with_reducible refine brK_ndec ?_ ?_ | refine brK_of ?_ ?_) | exact True.intro | refine hK _ ?_ | fail)
    all_goals (try (refine ⟨?_⟩))
    all_goals (try with_reducible rfl)
    all_goals (unfold lostI; simp only [*, if_true, if_false])
  · exact h.elim
/-- the order of the document -/
def cmpH (a b : Hl) : Int := orF [cmpI (lostI a.left) (lostI b.left), cmpI a.left b.left, cmpI b.bad a.bad, cmpI a.row b.row, cmpI a.group b.group]
def C83 : List AV → (AV → Prop) → Prop
  | [.agg [.d (.v (.int .i64 r1)), .d (.v (.int .i64 g1)), .d (.v (.int .i64 l1)), .d (.v (.int .i64 b1))], .agg [.d (.v (.int .i64 r2)), .d (.v (.int .i64 g2)), .d (.v (.int .i64 l2)), .d (.v (.int .i64 b2))], .ep (_ + 1) f], K => (match f 0 with
    | .fn none g 0 _ => bif Nat.beq g 82 then K (.d (.v (.int .i64 (cmpH ⟨r1, g1, l1, b1⟩ ⟨r2, g2, l2, b2⟩)))) else False
    | _ => False)
  | _, _ => False
def spsCm2 : List (Nat × SpecE) := [(82, .lend C82), (84, .lend orC), (85, .lend cmpC)]
theorem spsCm2_ok : SpsOk gl0 spsCm2 := ((((SpsOk.nil gl0).cons ⟨Tryd.f85, Tryd.func85, by decide, rfl⟩ cmp_ok).cons ⟨Tryd.f84, Tryd.func84, by decide, rfl⟩ or_ok).cons ⟨Tryd.f82, Tryd.func82, by decide, rfl⟩ ok82)
def plan83 : Plan := .take 0 (.take 1 (.take 3 (.take 4 (.take 7 (.take 8 (.take 9 (.take 10 (.take 12 (.take 13 (.take 14 (.take 15 (.take 17 (.take 18 (.take 19 (.take 20 (.take 21 (.take 22 (.take 24 (.take 25 (.take 26 (.take 27 (.take 28 (.take 29 (.alt 2 (.alt 5 (.alt 6 (.alt 11 (.alt 16 (.alt 23 (.alt 30 (.alt 31 (.alt 32 (.take 33 (.done)) (.done)) (.done)) (.done)) (.done)) (.done)) (.done)) (.done)) (.done)) (.done)))))))))))))))))))))))))
def an83 : An := { plan := fun k => bif Nat.beq k 1 then some plan83 else none, cm := fun d => Nat.beq d 8 || Nat.beq d 11 }
set_option maxHeartbeats 4000000 in
set_option maxRecDepth 20000 in
theorem ok83 : Meets P0 gl0 83 (.lend C83) := by
  intro args K h
  unfold C83 at h
  split at h
  · rename_i r1 g1 l1 b1 r2 g2 l2 b2 m f
    split at h
    · rename_i g c hf
      obtain ⟨hg, h⟩ := bif_ok h
      obtain rfl := Nat.eq_of_beq_eq_true hg
      have hK : ∀ b, b = cmpH ⟨r1, g1, l1, b1⟩ ⟨r2, g2, l2, b2⟩ → K (.d (.v (.int .i64 b))) := fun b hb => by rw [hb]; exact h
      refine Does.conv (args' := [.agg [.d (.v (.int .i64 r1)), .d (.v (.int .i64 g1)), .d (.v (.int .i64 l1)), .d (.v (.int .i64 b1))], .agg [.d (.v (.int .i64 r2)), .d (.v (.int .i64 g2)), .d (.v (.int .i64 l2)), .d (.v (.int .i64 b2))], .ep (m + 1) fun i => bif Nat.beq i 0 then .fn none 82 0 c else f i]) (Les.cons (Le.refl _) (Les.cons (Le.refl _) (Les.cons (Le.ep fun j hj => by
        cases j with
        | zero => rw [hf]; exact DLe.of_eq rfl
        | succ j => exact DLe.of_eq rfl) (Les.refl _)))) ?_
      refine does_mk noEq_ok spsCm2_ok Tryd.func83 an83 (fun i g s h => by cases h) [] ?_
      repeat' (first | refine And.intro ?_ ?_ | intro _ | (refine brK_id ?_; first | with_reducible refine brK_t ?_ | with_reducible refine brK_f ?_ | with_reducible refine brK_dec ?_ ?_ | with_reducible refine brK_ndec ?_ ?_ | refine brK_of ?_ ?_) | exact True.intro | refine hK _ ?_ | fail)
      all_goals (try (refine ⟨?_⟩))
      all_goals (try with_reducible rfl)
      all_goals (try (exact ⟨rfl, rfl⟩))
      all_goals (try rfl)
      all_goals (try (exact ⟨by kernel_rfl, by kernel_rfl⟩))
      all_goals (simp only [List.length_cons, List.length_nil]; omega)
    · exact h.elim
  · exact h.elim
/-- byLoss -/
def byC : List AV → (MM → AV → Prop) → Prop
  | [], K => K [(0, .box [.fn 82 []])] (.agg [.fn 83 [.bp 0 0]])
  | _, _ => False
theorem by_ok : Meets P0 gl0 56 (.data byC) := by
  intro args K h
  unfold byC at h
  split at h
  · refine does_mk noEq_ok (SpsOk.nil gl0) Tryd.func56 {} (fun i g s h => by cases h) [1] ?_
    repeat' (first | exact h | refine And.intro ?_ ?_ | intro _ | (refine brK_id ?_; first | with_reducible refine brK_t ?_ | with_reducible refine brK_f ?_ | with_reducible refine brK_dec ?_ ?_ | with_reducible refine brK_ndec ?_ ?_ | refine brK_of ?_ ?_) | exact True.intro | fail)
    all_goals (try (refine ⟨?_⟩))
    all_goals (try with_reducible rfl)
  · exact h.elim
end Go.Proofs.YtgdcefohfebleaaDoor.V
/- Blocks told otherwise at a call's begin or end: rows by less. -/
set_option linter.unusedVariables false
set_option linter.unusedSimpArgs false
namespace Go.Proofs.YtgdcefohfebleaaDoor.V
open Go Go.Proofs

/-- cells that both tell, within the elements' width -/
def PreW (r' r : DV) : Prop := r'.isSl = true ∧ r'.width = r.width ∧ r'.len ≤ r.len ∧ ∀ w ok i j v, i < r'.len → j < r'.width → (r.cell i j).rep w ok v → (r'.cell i j).rep w ok v
/-- y tells no more than x, of the same block -/
def CutB (x y : ABlk) : Prop := y = x ∨ ∃ e r r0, x = .row e r ∧ y = .row e r0 ∧ PreW r0 r
theorem CutB.refl (x : ABlk) : CutB x x := .inl rfl
theorem CutB.lives {x y : ABlk} (h : CutB x y) (e : Ent) : y.lives e ↔ x.lives e := by
  rcases h with rfl | ⟨_, _, _, rfl, rfl, _⟩
  · exact Iff.rfl
  · exact Iff.rfl
theorem MS.cut {W : World} {ok S : Nat → Prop} {β0 : Nat → Ent} {mm mm' : MM} {β : Nat → Ent} {w : World} (h : MS W ok S β0 mm β w) (hc : ∀ k, CutB (lkM k mm) (lkM k mm')) :
    MS W ok S β0 mm' β w ∧ okB W ok S mm' β w = okB W ok S mm β w := by
  have hlv : ∀ k, live mm' β k ↔ live mm β k := fun k => (hc k).lives _
  have ho : okB W ok S mm' β w = okB W ok S mm β w := by
    funext b; unfold okB
    have : (∀ k, live mm' β k → (β k).blk ≠ b) = (∀ k, live mm β k → (β k).blk ≠ b) := propext ⟨fun h k hk => h k ((hlv k).2 hk), fun h k hk => h k ((hlv k).1 hk)⟩
    rw [this]
  refine ⟨⟨fun k => ?_, fun j k hj hk => h.inj j k ((hlv j).1 hj) ((hlv k).1 hk), fun k hk => h.ow k ((hlv k).1 hk), h.fr, h.fx⟩, ho⟩
  have hm := h.me k
  rw [ho]
  rcases hc k with e | ⟨e, r, r0, e1, e2, hpre⟩
  · rw [e]; exact hm
  · rw [e1] at hm
    rw [e2]
    obtain ⟨h6, h7⟩ := hm
    refine ⟨hpre.1, ?_⟩
    split
    · rename_i hn
      rw [if_pos hn] at h7
      have := hpre.2.2.1; omega
    · rename_i hn
      rw [if_neg hn] at h7
      obtain ⟨vs, h8, h9, h10, h11⟩ := h7
      refine ⟨vs, h8, by rw [hpre.2.1]; exact h9, by have := hpre.2.2.1; omega, fun i hi j hj => ?_⟩
      have hj' := hj
      rw [hpre.2.1] at hj ⊢
      obtain ⟨u, h12, h13, h14⟩ := h11 i (by have := hpre.2.2.1; omega) j hj
      exact ⟨u, h12, h13, hpre.2.2.2 _ _ i j u hi hj' h14⟩
/-- the call's blocks, told by less at its begin -/
theorem Does.convM {gl : GL} {g : FuncId} {args : List AV} {mm0 mm1 : MM} {post : MM → AV → Prop} (hc : ∀ k, CutB (lkM k mm0) (lkM k mm1)) (h : Does P0 gl g args mm1 post) : Does P0 gl g args mm0 post := by
  intro W β ok0 vs h1 h2 h3
  have hlv : ∀ k, live mm1 β k ↔ live mm0 β k := fun k => (hc k).lives _
  have hS : S0of mm1 β = S0of mm0 β := by
    funext b; unfold S0of
    exact propext ⟨fun ⟨k, h1, h2⟩ => ⟨k, (hlv k).1 h1, h2⟩, fun ⟨k, h1, h2⟩ => ⟨k, (hlv k).2 h1, h2⟩⟩
  obtain ⟨h4, ho⟩ := h2.cut hc
  have := h W β ok0 vs (by rw [hS]; exact h1) (by rw [hS]; exact h4) (by rw [hS, ho]; exact h3)
  rw [hS] at this
  exact this
/-- and at its end -/
theorem Does.cutG {gl : GL} {g : FuncId} {args : List AV} {mm0 : MM} {post : MM → AV → Prop} (h : Does P0 gl g args mm0 fun mm r => ∃ mm', (∀ k, CutB (lkM k mm) (lkM k mm')) ∧ post mm' r) : Does P0 gl g args mm0 post := by
  intro W β ok0 vs h1 h2 h3
  refine Calls.mono (h W β ok0 vs h1 h2 h3) fun e w' he => ?_
  cases e with
  | returned v =>
    obtain ⟨mm1, β', r, ⟨mm', hc, hp⟩, h4, h5⟩ := he
    obtain ⟨h6, ho⟩ := h4.cut hc
    exact ⟨mm', β', r, hp, h6, by rw [ho]; exact h5⟩
  | panicked _ => exact he.elim
  | outgrown => exact he.elim
end Go.Proofs.YtgdcefohfebleaaDoor.V
/- slices.insertionSortCmpFunc of stripes -/
set_option linter.unusedVariables false
set_option linter.unusedSimpArgs false
namespace Go.Proofs.YtgdcefohfebleaaDoor.V
open Go Go.Proofs

/-- elements i and j change places -/
def swapH (l : List Hl) (i j : Nat) : List Hl := (l.set i (l.getD j Hl.none)).set j (l.getD i Hl.none)
theorem swapH_len (l : List Hl) (i j : Nat) : (swapH l i j).length = l.length := by unfold swapH; rw [List.length_set, List.length_set]
def sinkF (a : Nat) : Nat → List Hl → List Hl
  | 0, l => l
  | j + 1, l => if a < j + 1 ∧ cmpH (l.getD (j + 1) Hl.none) (l.getD j Hl.none) < 0 then sinkF a j (swapH l (j + 1) j) else l
def insO (a : Nat) (l : List Hl) : Nat → List Hl
  | 0 => l
  | k + 1 => sinkF a (a + 1 + k) (insO a l k)
theorem sinkF_len (a : Nat) : ∀ j l, (sinkF a j l).length = l.length
  | 0, l => rfl
  | j + 1, l => by
    unfold sinkF
    split
    · rw [sinkF_len a j, swapH_len]
    · rfl
theorem insO_len (a : Nat) (l : List Hl) : ∀ k, (insO a l k).length = l.length
  | 0 => rfl
  | k + 1 => by rw [insO, sinkF_len, insO_len a l k]
def insF (a b : Nat) (l : List Hl) : List Hl := insO a l (b - (a + 1))
theorem insF_len (a b : Nat) (l : List Hl) : (insF a b l).length = l.length := insO_len a l _
theorem getD_setH (l : List Hl) (i j : Nat) (x : Hl) : (l.set i x).getD j Hl.none = if i = j ∧ i < l.length then x else l.getD j Hl.none := by
  simp only [List.getD_eq_getElem?_getD, List.getElem?_set]
  by_cases h : i = j
  · subst h
    by_cases h2 : i < l.length
    · simp [h2]
    · simp [h2, List.getElem?_eq_none (Nat.le_of_not_lt h2)]
  · simp [h]
/-- the four cells of element i become c -/
def put4 (el : Nat → Nat → DV) (i : Nat) (c : Nat → DV) : Nat → Nat → DV := fun a b => bif a.beq i && b.beq (0 + 1 + 1 + 1) then c (0 + 1 + 1 + 1) else (fun a b => bif a.beq i && b.beq (0 + 1 + 1) then c (0 + 1 + 1) else (fun a b => bif a.beq i && b.beq (0 + 1) then c (0 + 1) else (fun a b => bif a.beq i && b.beq 0 then c 0 else el a b) a b) a b) a b
theorem put4_eq (el : Nat → Nat → DV) (i : Nat) (c : Nat → DV) (a b : Nat) (hb : b < 4) : put4 el i c a b = if a = i then c b else el a b := by
  have hb : b = 0 ∨ b = 1 ∨ b = 2 ∨ b = 3 := by omega
  unfold put4
  by_cases h : a = i
  · subst h; rw [if_pos rfl]; rcases hb with rfl | rfl | rfl | rfl <;> (simp only [beq_self, Bool.true_and]; rfl)
  · rw [if_neg h]; rcases hb with rfl | rfl | rfl | rfl <;> simp [beq_ne h]
theorem swapH_get (l : List Hl) {i j : Nat} (hi : i < l.length) (hj : j < l.length) (a : Nat) : (swapH l i j).getD a Hl.none = if a = j then l.getD i Hl.none else if a = i then l.getD j Hl.none else l.getD a Hl.none := by
  unfold swapH
  rw [getD_setH, getD_setH, List.length_set]
  by_cases h : j = a
  · subst h; rw [if_pos ⟨rfl, hj⟩, if_pos rfl]
  · rw [if_neg (fun q => h q.1), if_neg (Ne.symm h)]
    by_cases h2 : i = a
    · subst h2; rw [if_pos ⟨rfl, hi⟩, if_pos rfl]
    · rw [if_neg (fun q => h2 q.1), if_neg (Ne.symm h2)]
theorem swap_el (l : List Hl) {i j : Nat} (hi : i < l.length) (hj : j < l.length) (n : Nat) : ∀ a b, a < n → b < 4 → put4 (put4 (hlEl l) i (hlEl l j)) j (hlEl l i) a b = hlEl (swapH l i j) a b := by
  intro a b _ hb
  rw [put4_eq _ _ _ _ _ hb, put4_eq _ _ _ _ _ hb]
  unfold hlEl
  rw [swapH_get l hi hj]
  split
  · rfl
  · split <;> rfl
theorem sink_step {a j : Nat} {l : List Hl} (hj : a < j) (hc : cmpH (l.getD j Hl.none) (l.getD (j - 1) Hl.none) < 0) : sinkF a j l = sinkF a (j - 1) (swapH l j (j - 1)) := by
  obtain ⟨k, rfl⟩ : ∃ k, j = k + 1 := ⟨j - 1, by omega⟩
  rw [Nat.add_sub_cancel] at *
  rw [sinkF, if_pos ⟨hj, hc⟩]
theorem sink_stop {a j : Nat} {l : List Hl} (h : ¬ a < j ∨ ¬ cmpH (l.getD j Hl.none) (l.getD (j - 1) Hl.none) < 0) : sinkF a j l = l := by
  cases j with
  | zero => rfl
  | succ k =>
    rw [Nat.add_sub_cancel] at h
    rw [sinkF, if_neg (fun q => h.elim (fun h => h q.1) (fun h => h q.2))]
theorem ins_step {a i : Nat} {l : List Hl} (hi : a + 1 ≤ i) : insO a l (i + 1 - (a + 1)) = sinkF a i (insO a l (i - (a + 1))) := by
  rw [show i + 1 - (a + 1) = (i - (a + 1)) + 1 by omega, insO, show a + 1 + (i - (a + 1)) = i by omega]
theorem ins_zero (a : Nat) (l : List Hl) : insO a l 0 = l := rfl
structure IS where
  i : Nat
structure JS where
  j : Nat
  l : List Hl
/-- the row that is sorted, behind the comparison's box -/
def srt (l : List Hl) : MM := [(1048576, .box [.fn 82 []]), (1048577, .row 60 (hlDV l))]
def insLO (a b : Nat) (l : List Hl) : LAnn := { ι := IS, nils := [], vars := fun x => [(8, .d (.v (.int .i64 (x.i : Int))))], mem := fun x => [(1048577, .row 60 (hlDV (insO a l (x.i - (a + 1)))))], inv := fun x => a + 1 ≤ x.i ∧ (x.i ≤ b ∨ x.i = a + 1), init := ⟨a + 1⟩, meas := fun x => b - x.i }
def insLI (a i : Nat) (l : List Hl) : LAnn := { ι := JS, nils := [], vars := fun x => [(9, .d (.v (.int .i64 (x.j : Int))))], mem := fun x => [(1048577, .row 60 (hlDV x.l))], inv := fun x => x.j ≤ i ∧ x.l.length = l.length ∧ sinkF a x.j x.l = sinkF a i l, init := ⟨i, l⟩, meas := fun x => x.j }
def insC : List AV → MM → (MM → AV → Prop) → Prop
  | [.own kd n, .d (.v (.int .i64 a)), .d (.v (.int .i64 b)), .fn g [.bp kb j]], [(k0, .box [.fn g' []]), (k1, .row e (.gen w m el))], K =>
    bif Nat.beq kd 1048577 && Nat.beq kb 1048576 && Nat.beq j 0 && Nat.beq g 83 && Nat.beq g' 82 && Nat.beq k0 1048576 && Nat.beq k1 1048577 && Nat.beq e 60 && Nat.beq w 4 then
      ∃ l, Ob (Hls m el l ∧ n = l.length ∧ 0 ≤ a ∧ a ≤ b ∧ b ≤ (l.length : Int) ∧ l.length ≤ 1000000) ∧ ∀ l', l' = insF a.toNat b.toNat l → K (srt l') (.tup []) else False
  | _, _, _ => False
def plan100a : Plan := .take 0 (.take 1 (.take 2 (.take 3 (.take 4 (.take 5 (.take 6 (.take 7 (.take 8 (.take 9 (.take 10 (.take 11 (.take 12 (.take 13 (.alt 14 (.take 15 (.take 16 (.done))) (.done)))))))))))))))
def plan100b : Plan := .take 0 (.take 1 (.take 2 (.take 3 (.take 4 (.take 5 (.take 6 (.take 7 (.take 8 (.take 9 (.take 10 (.take 11 (.take 12 (.take 13 (.take 14 (.alt 15 (.take 16 (.alt 17 (.done) (.done))) (.done))))))))))))))))
def an100 : An := { plan := fun k => bif Nat.beq k 4 then some plan100a else (bif Nat.beq k 6 then some plan100b else none) }
def spsIn1 : List (Nat × SpecE) := [(83, .lend C83)]
theorem spsIn1_ok : SpsOk gl0 spsIn1 := (SpsOk.nil gl0).cons ⟨Tryd.f83, Tryd.func83, by decide, rfl⟩ ok83
attribute [local irreducible] cmpH sinkF insO
set_option maxHeartbeats 20000000 in
set_option maxRecDepth 20000 in
theorem ins_vc (a b : Nat) (l : List Hl) (ha : a ≤ b) (hb : b ≤ l.length) (hl : l.length ≤ 1000000) (K : MM → AV → Prop) (hK : ∀ l', l' = insF a b l → K (srt l') (.tup [])) :
    vcF (mk gl0 noEq spsIn1 Tryd.f100.ntmps an100) Tryd.f100 [.own 1048577 l.length, .d (.v (.int .i64 (a : Int))), .d (.v (.int .i64 (b : Int))), .fn 83 [.bp 1048576 0]] (srt l) [] K := by
  repeat' (first | refine And.intro ?_ ?_ | intro _ | (refine brK_id ?_; first | with_reducible refine brK_t ?_ | with_reducible refine brK_f ?_ | with_reducible refine brK_dec ?_ ?_ | with_reducible refine brK_ndec ?_ ?_ | refine brK_of ?_ ?_) | exact True.intro | refine hK _ ?_ | refine ExL.intro (id := 1) (insLO a b l) ?_ | refine ExL.intro (id := 4) (insLI a (by assumption : IS).i (insO a l ((by assumption : IS).i - (a + 1)))) ?_ | refine Exists.intro (JS.mk ((by assumption : JS).j - 1) (swapH (by assumption : JS).l (by assumption : JS).j ((by assumption : JS).j - 1))) ?_ | refine Exists.intro (IS.mk ((by assumption : IS).i + 1)) ?_ | fail)
  all_goals (try (refine ⟨?_⟩))
  all_goals (try with_reducible rfl)
  all_goals (try (exact ⟨by kernel_rfl, by kernel_rfl⟩))
  all_goals (have hL : ∀ k, (insO a l k).length = l.length := insO_len a l)
  all_goals (try (exact ⟨Nat.le_refl _, .inr rfl⟩))
  all_goals (try (exact ⟨Nat.le_refl _, rfl, rfl⟩))
  all_goals (try (have hj1 : (((by assumption : JS).j : Int) - 1).toNat = (by assumption : JS).j - 1 := by omega))
  all_goals (try simp only [hj1] at *)
  all_goals (try simp only [Int.toNat_natCast, hlDV, DV.len, hL, swapH_len, Nat.sub_self, ins_zero] at *)
  all_goals (try omega)
  all_goals (try (unfold in64; omega))
  all_goals (try (exact ⟨by omega, by omega⟩))
  all_goals (try (exact fun i j hi hj => rfl))
  all_goals (try (exact fun i j hi hj => trivial))
  all_goals (try (unfold insF; congr 1; omega))
  all_goals (try (have hinv := (by assumption : _ ∧ _ ∧ sinkF a _ _ = _)))
  all_goals (try (exact swap_el _ (by omega) (by omega) _))
  · rename_i hc _
    refine ⟨⟨by omega, by omega, ?_⟩, by omega⟩
    rw [← sink_step (by omega) hc]; exact hinv.2.2
  · rename_i hc _
    rw [ins_step (by omega), ← hinv.2.2, sink_stop (.inr hc)]
    exact fun i j hi hj => rfl
  · rw [ins_step (by omega), ← hinv.2.2, sink_stop (.inl (by omega))]
    exact fun i j hi hj => rfl
/-- elements that are these stripes, told as them -/
theorem Hls.pre {m : Nat} {el : Nat → Nat → DV} {l : List Hl} (h : Hls m el l) : PreW (hlDV l) (.gen 4 m el) := by
  obtain ⟨rfl, h⟩ := h
  refine ⟨rfl, rfl, Nat.le_refl _, fun w ok i j v hi hj hr => ?_⟩
  show (hlEl l i j).rep w ok v
  rw [← h i j hi hj]; exact hr
theorem srt_cut {m : Nat} {el : Nat → Nat → DV} {l : List Hl} (h : Hls m el l) : ∀ k, CutB (lkM k [(1048576, .box [.fn 82 []]), (1048577, .row 60 (.gen 4 m el))]) (lkM k (srt l)) := fun k => by
  simp only [srt, lkM]
  cases Nat.beq k 1048576 with
  | true => exact .inl rfl
  | false =>
    cases Nat.beq k 1048577 with
    | true => exact .inr ⟨60, _, _, rfl, rfl, h.pre⟩
    | false => exact .inl rfl
theorem ins_ok : Meets P0 gl0 100 (.heap insC) := by
  intro args mm0 K h
  unfold insC at h
  split at h
  · rename_i kd n a b g kb j k0 g' k1 e w m el
    obtain ⟨hb, l, ⟨hls, rfl, ha, hab, hbl, hl⟩, h2⟩ := bif_ok h
    simp only [Bool.and_eq_true] at hb
    obtain ⟨⟨⟨⟨⟨⟨⟨⟨e1, e2⟩, e3⟩, e4⟩, e5⟩, e6⟩, e7⟩, e8⟩, e9⟩ := hb
    obtain rfl := Nat.eq_of_beq_eq_true e1
    obtain rfl := Nat.eq_of_beq_eq_true e2
    obtain rfl := Nat.eq_of_beq_eq_true e3
    obtain rfl := Nat.eq_of_beq_eq_true e4
    obtain rfl := Nat.eq_of_beq_eq_true e5
    obtain rfl := Nat.eq_of_beq_eq_true e6
    obtain rfl := Nat.eq_of_beq_eq_true e7
    obtain rfl := Nat.eq_of_beq_eq_true e8
    obtain rfl := Nat.eq_of_beq_eq_true e9
    clear e1 e2 e3 e4 e5 e6 e7 e8 e9
    obtain ⟨a, rfl⟩ := Int.eq_ofNat_of_zero_le ha
    obtain ⟨b, rfl⟩ := Int.eq_ofNat_of_zero_le (Int.le_trans ha hab)
    simp only [Int.toNat_natCast] at h2
    exact Does.convM (srt_cut hls) (does_mk noEq_ok spsIn1_ok Tryd.func100 an100 (fun i g s h => by cases h) [] (ins_vc a b l (by omega) (by omega) hl K h2))
  · exact h.elim
end Go.Proofs.YtgdcefohfebleaaDoor.V
/- slices.stableCmpFunc, SortStableFunc of fewer than 20 stripes; IndexFunc, DeleteFunc, Clone of stripes -/
set_option linter.unusedVariables false
set_option linter.unusedSimpArgs false
namespace Go.Proofs.YtgdcefohfebleaaDoor.V
open Go Go.Proofs

/-! ### sorting -/
def st20C (args : List AV) (mm0 : MM) (K : MM → AV → Prop) : Prop :=
  ∃ (l : List Hl) (m : Nat) (el : Nat → Nat → DV), args = [.own 1048577 l.length, .d (.v (.int .i64 (l.length : Int))), .fn 83 [.bp 1048576 0]] ∧ mm0 = [(1048576, .box [.fn 82 []]), (1048577, .row 60 (.gen 4 m el))] ∧ Hls m el l ∧ l.length < 20 ∧ ∀ l', l' = insF 0 l.length l → K (srt l') (.tup [])
theorem st20_go {l : List Hl} {m : Nat} {el : Nat → Nat → DV} {K : MM → AV → Prop} {n : Nat} {i : Int} (hn : n = l.length) (hi : i = (l.length : Int)) (h : Hls m el l) (hl : l.length < 20) (hK : ∀ l', l' = insF 0 l.length l → K (srt l') (.tup [])) :
    st20C [.own 1048577 n, .d (.v (.int .i64 i)), .fn 83 [.bp 1048576 0]] [(1048576, .box [.fn 82 []]), (1048577, .row 60 (.gen 4 m el))] K := by
  subst hn hi
  exact ⟨l, m, el, rfl, rfl, h, hl, hK⟩
attribute [irreducible] st20C
def spsT1 : List (Nat × SpecE) := [(100, .heap insC)]
theorem spsT1_ok : SpsOk gl0 spsT1 := (SpsOk.nil gl0).cons ⟨Tryd.f100, Tryd.func100, by decide, rfl⟩ ins_ok
def noL (vs : TM) : LAnn := { ι := Unit, nils := [], vars := fun _ => vs, mem := fun _ => [], inv := fun _ => True, init := (), meas := fun _ => 0 }
attribute [local irreducible] insF
set_option maxHeartbeats 4000000 in
set_option maxRecDepth 20000 in
theorem st20_ok : Meets P0 gl0 81 (.heap st20C) := by
  intro args mm0 K h
  unfold st20C at h
  obtain ⟨l, m, el, rfl, rfl, hls, hl, hK⟩ := h
  refine Does.convM (srt_cut hls) ?_
  refine does_mk noEq_ok spsT1_ok Tryd.func81 {} (fun i g s h => by cases h) [] ?_
  repeat' (first | refine And.intro ?_ ?_ | intro _ | (refine brK_id ?_; refine brK_dec (fun he => absurd he (by omega)) (fun _ => ?_)) | (refine brK_id ?_; first | with_reducible refine brK_t ?_ | with_reducible refine brK_f ?_ | with_reducible refine brK_dec ?_ ?_ | with_reducible refine brK_ndec ?_ ?_ | refine brK_of ?_ ?_) | exact True.intro | refine hK _ ?_ | refine ExL.intro (id := 2) (noL [(7, .d (.v (.int .i64 0))), (8, .d (.v (.int .i64 20)))]) ?_ | refine ExL.intro (id := 7) (noL [(6, .d (.v (.int .i64 20)))]) ?_ | refine Exists.intro (α := List Hl) l ?_ | fail)
  all_goals (try (refine ⟨?_⟩))
  all_goals (try with_reducible rfl)
  all_goals (try trivial)
  exact ⟨Hls.self l, rfl, Int.le_refl _, by omega, Int.le_refl _, by omega⟩
def sort20C (args : List AV) (mm0 : MM) (K : MM → AV → Prop) : Prop :=
  ∃ (l : List Hl) (m : Nat) (el : Nat → Nat → DV), args = [.own 1048577 l.length, .fn 83 [.bp 1048576 0]] ∧ mm0 = [(1048576, .box [.fn 82 []]), (1048577, .row 60 (.gen 4 m el))] ∧ Hls m el l ∧ l.length < 20 ∧ ∀ l', l' = insF 0 l.length l → K (srt l') (.tup [])
theorem sort20_go {l : List Hl} {m : Nat} {el : Nat → Nat → DV} {K : MM → AV → Prop} {n : Nat} (hn : n = l.length) (h : Hls m el l) (hl : l.length < 20) (hK : ∀ l', l' = insF 0 l.length l → K (srt l') (.tup [])) :
    sort20C [.own 1048577 n, .fn 83 [.bp 1048576 0]] [(1048576, .box [.fn 82 []]), (1048577, .row 60 (.gen 4 m el))] K := by
  subst hn
  exact ⟨l, m, el, rfl, rfl, h, hl, hK⟩
attribute [irreducible] sort20C
def spsT2 : List (Nat × SpecE) := [(81, .heap st20C)]
theorem spsT2_ok : SpsOk gl0 spsT2 := (SpsOk.nil gl0).cons ⟨Tryd.f81, Tryd.func81, by decide, rfl⟩ st20_ok
theorem sort20_ok : Meets P0 gl0 55 (.heap sort20C) := by
  intro args mm0 K h
  unfold sort20C at h
  obtain ⟨l, m, el, rfl, rfl, hls, hl, hK⟩ := h
  refine Does.convM (srt_cut hls) ?_
  refine does_mk noEq_ok spsT2_ok Tryd.func55 {} (fun i g s h => by cases h) [] ?_
  repeat' (first | refine And.intro ?_ ?_ | intro _ | (refine brK_id ?_; first | with_reducible refine brK_t ?_ | with_reducible refine brK_f ?_ | with_reducible refine brK_dec ?_ ?_ | with_reducible refine brK_ndec ?_ ?_ | refine brK_of ?_ ?_) | exact True.intro | refine hK _ ?_ | refine st20_go (l := l) ?_ ?_ ?_ hl (fun _ _ => ?_) | fail)
  all_goals (try (refine ⟨?_⟩))
  all_goals (try with_reducible rfl)
  all_goals assumption
/-! ### the stripes with units that are not good -/
def keepH (h : Hl) : Bool := decide (0 < h.bad)
def C54 : List AV → (AV → Prop) → Prop
  | [.agg [.d (.v (.int .i64 _)), .d (.v (.int .i64 _)), .d (.v (.int .i64 _)), .d (.v (.int .i64 b))]], K => K (.d (.v (.bool (decide (b ≤ 0)))))
  | _, _ => False
theorem ok54 : Meets P0 gl0 54 (.lend C54) := by
  intro args K h
  unfold C54 at h
  split at h
  · rename_i r g x b
    have hK : ∀ q, q = decide (b ≤ 0) → K (.d (.v (.bool q))) := fun q hq => by rw [hq]; exact h
    refine does_mk noEq_ok (SpsOk.nil gl0) Tryd.func54 {} (fun i g s h => by cases h) [] ?_
    repeat' (first | refine And.intro ?_ ?_ | intro _ | (refine brK_id ?_; first | with_reducible refine brK_t ?_ | with_reducible refine brK_f ?_ | with_reducible refine brK_dec ?_ ?_ | with_reducible refine brK_ndec ?_ ?_ | refine brK_of ?_ ?_) | exact True.intro | refine hK _ ?_ | fail)
    all_goals (try (refine ⟨?_⟩))
    all_goals (try with_reducible rfl)
  · exact h.elim
def spsT3 : List (Nat × SpecE) := [(54, .lend C54)]
theorem spsT3_ok : SpsOk gl0 spsT3 := (SpsOk.nil gl0).cons ⟨Tryd.f54, Tryd.func54, by decide, rfl⟩ ok54
def delB (l : List Hl) (i : Nat) : Bool := decide ((l.getD i Hl.none).bad ≤ 0)
def ixC : List AV → (AV → Prop) → Prop
  | [.d (.gen 4 n el), .fn g []], K => bif Nat.beq g 54 then ∃ l, Ob (Hls n el l ∧ n ≤ 1000000) ∧ (∀ i : Nat, i < n ∧ delB l i = true ∧ (∀ j, j < i → delB l j = false) → K (.d (.v (.int .i64 (i : Int))))) ∧ ((∀ j, j < n → delB l j = false) → K (.d (.v (.int .i64 (-1))))) else False
  | _, _ => False
def ixAn (l : List Hl) : An := { ann := fun k => bif Nat.beq k 2 then some { ι := BI, nils := [], vars := fun y => [(8, .d (.v (.int .i64 (y.i : Int))))], mem := fun _ => [], inv := fun y => y.i ≤ l.length ∧ ∀ j, j < y.i → delB l j = false, init := ⟨0⟩, meas := fun y => l.length - y.i } else none }
theorem ix_ok : Meets P0 gl0 80 (.lend ixC) := by
  intro args K h
  unfold ixC at h
  split at h
  · rename_i n el g
    obtain ⟨hg, l, ⟨hls, hl⟩, h1, h2⟩ := bif_ok h
    obtain rfl := Nat.eq_of_beq_eq_true hg
    obtain rfl : n = l.length := hls.1
    refine Does.conv (args' := [.d (hlDV l), .fn 54 []]) (Les.cons hls.le.le (Les.refl _)) ?_
    refine does_mk noEq_ok spsT3_ok Tryd.func80 (ixAn l) (fun i g s h => by cases h) [] ?_
    repeat' (first | refine And.intro ?_ ?_ | intro _ | (refine brK_id ?_; first | with_reducible refine brK_t ?_ | with_reducible refine brK_f ?_ | with_reducible refine brK_dec ?_ ?_ | with_reducible refine brK_ndec ?_ ?_ | refine brK_of ?_ ?_) | exact True.intro | refine h1 _ ?_ | refine h2 ?_ | refine Exists.intro (BI.mk ((by assumption : BI).i + 1)) ?_ | fail)
    all_goals (try (refine ⟨?_⟩))
    all_goals (try with_reducible rfl)
    all_goals (try simp only [Int.toNat_natCast] at *)
    all_goals (try omega)
    all_goals (try (unfold in64; omega))
    · exact ⟨Nat.zero_le _, fun j hj => absurd hj (Nat.not_lt_zero _)⟩
    · rename_i hb; unfold delB; exact decide_eq_true hb
    · exact (by assumption : _ ∧ ∀ j, j < _ → delB l j = false).2 _ (by assumption)
    · have hinv := (by assumption : _ ∧ ∀ j, j < _ → delB l j = false)
      rename_i hb
      refine ⟨⟨by omega, fun j hj => ?_⟩, by omega⟩
      rcases Nat.lt_or_ge j (by assumption : BI).i with q | q
      · exact hinv.2 j q
      · obtain rfl : j = (by assumption : BI).i := by omega
        unfold delB; exact decide_eq_false hb
    · have hinv := (by assumption : _ ∧ ∀ j, j < _ → delB l j = false)
      exact hinv.2 _ (by omega)
  · exact h.elim
end Go.Proofs.YtgdcefohfebleaaDoor.V
/- slices.DeleteFunc, Clone of stripes; health.Order (fewer than 20 stripes) -/
set_option linter.unusedVariables false
set_option linter.unusedSimpArgs false
namespace Go.Proofs.YtgdcefohfebleaaDoor.V
open Go Go.Proofs

theorem hlEl_ok (l : List Hl) : Hls l.length (hlEl l) l := Hls.self l
def delC (args : List AV) (mm0 : MM) (K : MM → AV → Prop) : Prop :=
  ∃ (l : List Hl) (m : Nat) (el : Nat → Nat → DV), args = [.own 1048576 l.length, .fn 54 []] ∧ mm0 = [(1048576, .row 60 (.gen 4 m el))] ∧ Hls m el l ∧ l.length ≤ 1000000 ∧ ∀ l' n, l' = l.filter keepH → n = l'.length → K [(1048576, .row 60 (hlDV l'))] (.own 1048576 n)
theorem del_go {l : List Hl} {m : Nat} {el : Nat → Nat → DV} {K : MM → AV → Prop} {n : Nat} (hn : n = l.length) (h : Hls m el l) (hl : l.length ≤ 1000000) (hK : ∀ l' n, l' = l.filter keepH → n = l'.length → K [(1048576, .row 60 (hlDV l'))] (.own 1048576 n)) :
    delC [.own 1048576 n, .fn 54 []] [(1048576, .row 60 (.gen 4 m el))] K := by
  subst hn
  exact ⟨l, m, el, rfl, rfl, h, hl, hK⟩
attribute [irreducible] delC
theorem row_cut {m : Nat} {el : Nat → Nat → DV} {l : List Hl} (h : Hls m el l) (k0 : Nat) : ∀ k, CutB (lkM k [(k0, .row 60 (.gen 4 m el))]) (lkM k [(k0, .row 60 (hlDV l))]) := fun k => by
  simp only [lkM]
  cases Nat.beq k k0 with
  | true => exact .inr ⟨60, _, _, rfl, rfl, h.pre⟩
  | false => exact .inl rfl
structure DS where
  i : Nat
  j : Nat
  l : List Hl
def DS.next (l : List Hl) (x : DS) : DS := if delB l x.j = true then ⟨x.i, x.j + 1, x.l⟩ else ⟨x.i + 1, x.j + 1, x.l.set x.i (l.getD x.j Hl.none)⟩
structure DS.ok (l : List Hl) (x : DS) : Prop where
  ij : x.i < x.j
  jn : x.j ≤ l.length
  len : x.l.length = l.length
  tk : x.l.take x.i = (l.take x.j).filter keepH
  rest : ∀ k, x.j ≤ k → x.l.getD k Hl.none = l.getD k Hl.none
def delL (l : List Hl) (i0 : Nat) : LAnn := { ι := DS, nils := [], vars := fun x => [(5, .d (.v (.int .i64 (x.i : Int)))), (6, .d (.v (.int .i64 (x.j : Int))))], mem := fun x => [(1048576, .row 60 (hlDV x.l))], inv := fun x => DS.ok l x, init := ⟨i0, i0 + 1, l⟩, meas := fun x => l.length - x.j }
def spsDl1 : List (Nat × SpecE) := [(54, .lend C54), (80, .lend ixC)]
theorem spsDl1_ok : SpsOk gl0 spsDl1 := (((SpsOk.nil gl0).cons ⟨Tryd.f80, Tryd.func80, by decide, rfl⟩ ix_ok).cons ⟨Tryd.f54, Tryd.func54, by decide, rfl⟩ ok54)
theorem keep_del (l : List Hl) (i : Nat) : keepH (l.getD i Hl.none) = !delB l i := by
  unfold keepH delB
  by_cases h : 0 < (l.getD i Hl.none).bad
  · rw [decide_eq_true h, decide_eq_false (by omega)]; rfl
  · rw [decide_eq_false h, decide_eq_true (by omega)]; rfl
theorem take_keep {l : List Hl} {i : Nat} (hi : i < l.length) : (l.take (i + 1)).filter keepH = (l.take i).filter keepH ++ (if delB l i = true then [] else [l.getD i Hl.none]) := by
  rw [List.take_succ_eq_append_getElem hi, List.filter_append]
  congr 1
  have hg : l[i] = l.getD i Hl.none := by rw [List.getD_eq_getElem?_getD, List.getElem?_eq_getElem hi]; rfl
  rw [hg, List.filter_cons, keep_del]
  cases delB l i <;> simp
theorem take_all {l : List Hl} : ∀ i, i ≤ l.length → (∀ j, j < i → delB l j = false) → (l.take i).filter keepH = l.take i
  | 0, _, _ => by simp
  | i + 1, hi, h => by
    rw [take_keep (by omega), take_all i (by omega) (fun j hj => h j (by omega)), h i (by omega), if_neg (by simp), List.take_succ_eq_append_getElem (by omega)]
    congr 2
    rw [List.getD_eq_getElem?_getD, List.getElem?_eq_getElem (by omega)]; rfl
theorem DS.init_ok {l : List Hl} {i : Nat} (h : i < l.length ∧ delB l i = true ∧ ∀ j, j < i → delB l j = false) : DS.ok l ⟨i, i + 1, l⟩ :=
  ⟨Nat.lt_succ_self _, h.1, rfl, by
    show l.take i = (l.take (i + 1)).filter keepH
    rw [take_keep h.1, h.2.1, if_pos rfl, List.append_nil, take_all i (Nat.le_of_lt h.1) h.2.2], fun _ _ => rfl⟩
theorem DS.keep_ok {l : List Hl} {x : DS} (h : DS.ok l x) (hj : x.j < l.length) (hb : ¬ (x.l.getD x.j Hl.none).bad ≤ 0) : DS.next l x = ⟨x.i + 1, x.j + 1, x.l.set x.i (x.l.getD x.j Hl.none)⟩ ∧ DS.ok l (DS.next l x) := by
  have hd : delB l x.j = false := by unfold delB; rw [← h.rest _ (Nat.le_refl _)]; exact decide_eq_false hb
  have hn : DS.next l x = ⟨x.i + 1, x.j + 1, x.l.set x.i (x.l.getD x.j Hl.none)⟩ := by unfold DS.next; rw [hd, if_neg (by simp), h.rest _ (Nat.le_refl _)]
  have hij := h.ij
  have hln := h.len
  refine ⟨hn, ?_⟩
  rw [hn]
  refine ⟨by show x.i + 1 < x.j + 1; omega, hj, by rw [List.length_set]; exact hln, ?_, fun k hk => ?_⟩
  · show (x.l.set x.i _).take (x.i + 1) = (l.take (x.j + 1)).filter keepH
    rw [take_keep hj, hd, if_neg (by simp), ← h.tk, h.rest _ (Nat.le_refl _)]
    rw [List.take_succ_eq_append_getElem (by rw [List.length_set]; omega), List.take_set, List.getElem_set_self]
    rw [List.set_eq_of_length_le (by rw [List.length_take]; omega)]
  · have hk : x.j + 1 ≤ k := hk
    show (x.l.set x.i _).getD k Hl.none = _
    rw [getD_setH, if_neg (by omega), h.rest k (by omega)]
theorem DS.del_ok {l : List Hl} {x : DS} (h : DS.ok l x) (hj : x.j < l.length) (hb : (x.l.getD x.j Hl.none).bad ≤ 0) : DS.next l x = ⟨x.i, x.j + 1, x.l⟩ ∧ DS.ok l (DS.next l x) := by
  have hd : delB l x.j = true := by unfold delB; rw [← h.rest _ (Nat.le_refl _)]; exact decide_eq_true hb
  have hn : DS.next l x = ⟨x.i, x.j + 1, x.l⟩ := by unfold DS.next; rw [hd, if_pos rfl]
  have hij := h.ij
  refine ⟨hn, ?_⟩
  rw [hn]
  refine ⟨by show x.i < x.j + 1; omega, hj, h.len, ?_, fun k hk => h.rest k (by have hk : x.j + 1 ≤ k := hk; omega)⟩
  show x.l.take x.i = (l.take (x.j + 1)).filter keepH
  rw [take_keep hj, hd, if_pos rfl, List.append_nil, h.tk]
theorem DS.fin_ok {l : List Hl} {x : DS} (h : DS.ok l x) (hj : ¬ x.j < l.length) : Hls x.i (fun i j => hlEl x.l (0 + i) j) (l.filter keepH) := by
  have hij := h.ij
  have hln := h.len
  have hjn := h.jn
  have htk := h.tk
  rw [show x.j = l.length by omega, List.take_length] at htk
  rw [← htk]
  refine ⟨by rw [List.length_take]; omega, fun i j hi hj => ?_⟩
  unfold hlEl
  show DV.v (Value.int IntKind.i64 ((x.l.getD (0 + i) Hl.none).cell j)) = _
  rw [Nat.zero_add, List.getD_eq_getElem?_getD, List.getD_eq_getElem?_getD, List.getElem?_take_of_lt hi]
theorem set_el (l : List Hl) {i j : Nat} (hi : i < l.length) (n : Nat) : ∀ a b, a < n → b < 4 → put4 (hlEl l) i (hlEl l j) a b = hlEl (l.set i (l.getD j Hl.none)) a b := by
  intro a b _ hb
  rw [put4_eq _ _ _ _ _ hb]
  unfold hlEl
  rw [getD_setH]
  by_cases h : i = a
  · subst h; rw [if_pos rfl, if_pos ⟨rfl, hi⟩]
  · rw [if_neg (Ne.symm h), if_neg (fun q => h q.1)]
set_option maxHeartbeats 4000000 in
set_option maxRecDepth 20000 in
theorem del_ok : Meets P0 gl0 52 (.heap delC) := by
  intro args mm0 K h
  unfold delC at h
  obtain ⟨l, m, el, rfl, rfl, hls, hl, hK⟩ := h
  refine Does.convM (row_cut hls 1048576) (Does.cutG ?_)
  have hK1 : l.filter keepH = l → ∃ mm', (∀ k, CutB (lkM k [(1048576, .row 60 (hlDV l))]) (lkM k mm')) ∧ K mm' (.own 1048576 l.length) := fun e => ⟨_, fun k => .inl rfl, hK l _ e.symm rfl⟩
  have hK2 : ∀ (l' : List Hl) (i : Int) (n : Nat) (el : Nat → Nat → DV), Hls n el (l.filter keepH) → i.toNat = n → ∃ mm', (∀ k, CutB (lkM k [(1048576, .row 60 (.gen 4 n el))]) (lkM k mm')) ∧ K mm' (.own 1048576 i.toNat) := fun l' i n el h1 h2 => ⟨_, row_cut h1 _, hK _ _ rfl (by rw [h2]; exact h1.1)⟩
  refine does_mk noEq_ok spsDl1_ok Tryd.func52 {} (fun i g s h => by cases h) [] ?_
  repeat' (first | refine And.intro ?_ ?_ | intro _ | (refine brK_id ?_; first | with_reducible refine brK_t ?_ | with_reducible refine brK_f ?_ | with_reducible refine brK_dec ?_ ?_ | with_reducible refine brK_ndec ?_ ?_ | refine brK_of ?_ ?_) | exact True.intro | refine hK1 ?_ | refine hK2 [] _ _ _ ?_ ?_ | refine ExL.intro (id := 5) (delL l (by assumption : Nat)) ?_ | refine Exists.intro (DS.next l (by assumption : DS)) ?_ | refine Exists.intro (α := List Hl) l ?_ | fail)
  all_goals (try (refine ⟨?_⟩))
  all_goals (try with_reducible rfl)
  all_goals (try (exact ⟨Hls.self l, hl⟩))
  all_goals (try (exact DS.init_ok (by assumption)))
  all_goals (try simp only [Int.toNat_natCast, hlDV, DV.len] at *)
  all_goals (try (exfalso; omega))
  all_goals (try (exact fun i j hi hj => rfl))
  all_goals (try (exact fun i j hi hj => trivial))
  all_goals (try (have hinv := (by assumption : DS.ok l _); have h1 := hinv.ij; have h2 := hinv.jn; have h3 := hinv.len))
  all_goals (try omega)
  all_goals (try (unfold in64; omega))
  all_goals (try (exact ⟨by omega, by omega⟩))
  all_goals (try (exact absurd trivial (by assumption)))
  all_goals (try (exact (DS.fin_ok (by assumption) (by omega)).1))
  all_goals (try (exact (DS.fin_ok (by assumption) (by omega)).2 _ _ (by omega) (by assumption)))
  all_goals (try (have hx := take_all l.length (Nat.le_refl _) (by assumption); rw [List.take_length] at hx; exact hx))
  all_goals (first | have hk := DS.keep_ok (l := l) (by assumption) (by omega) (by assumption) | have hk := DS.del_ok (l := l) (by assumption) (by omega) (by assumption))
  all_goals (try (refine ⟨hk.2, ?_⟩))
  all_goals (rw [hk.1])
  all_goals (try rfl)
  all_goals (try (simp only [List.length_set]; done))
  all_goals (try (simp only [List.length_set]; omega))
  all_goals (try (exact set_el _ (by omega) _))
  all_goals (try (exact fun i j hi hj => rfl))
end Go.Proofs.YtgdcefohfebleaaDoor.V
