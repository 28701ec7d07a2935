/-
  Proved here, step by step for the theorem UW: erasure.every, erasure.Valid, erasure.Width; How a call's end may be told: rows as data, rows cut short, nil as an empty row.; slices.Grow of nil, slices.Concat of ints; matrix.Valid, row, zero, add; matrix.reduce$1: two rows change places; matrix.reduce; matrix.Transpose, Pick
  Conditions: those that stand in each theorem.
-/
import Derived.Test.YtgdcefohfebleaaDoorM09
/- erasure.every, erasure.Valid, erasure.Width -/
set_option linter.unusedVariables false
set_option linter.unusedSimpArgs false
namespace Go.Proofs.YtgdcefohfebleaaDoor.V
open Go Go.Proofs

def evF (p : Nat → Bool) (n : Nat) : Bool := !anyF (fun i => !p i) n
def capD : List AV → Option (List AV)
  | [] => some []
  | [.d x] => some [.d x]
  | [.ep m f] => some [.d (.ep m f)]
  | _ => none
/-- erasure.every of ints, with a closure out of a table -/
def evC (spg : Nat → Option SpecE) : List AV → (AV → Prop) → Prop
  | [.d (.ints .i64 l), .fn g caps], K => match capD caps with
    | some cs => match spg g with
      | some (.lend C) => Ob (l.length ≤ 100000) ∧ ∃ p : Nat → Bool, (∀ i, i < l.length → isK C (.d (.v (.int .i64 (l.getD i 0)))) cs (p i)) ∧ K (.d (.v (.bool (evF p l.length))))
      | _ => False
    | none => False
  | _, _ => False
theorem ev1C_of {spg : Nat → Option SpecE} {C : List AV → (AV → Prop) → Prop} {x : DV} {f : Nat → DV} {g n : Nat} {caps : Nat → DV} {b : Bool} {K : AV → Prop} (hf : f 0 = .fn none g n caps) (hC : spg g = some (.lend C)) (hb : isK C (.d x) (capL caps 0 n) b) (hK : K (.d (.v (.bool (!b))))) : ev1C spg [.d x, .ep 1 f] K := by
  unfold ev1C
  simp only
  rw [hf]; simp only; rw [hC]
  exact ⟨b, hb, hK⟩
theorem ev108 {sps : List (Nat × SpecE)} (hs : SpsOk gl0 sps) : Meets P0 gl0 108 (.lend (evC (spOf sps))) := by
  intro args K h
  unfold evC at h
  split at h
  · rename_i l g caps
    split at h
    · rename_i cs hcs
      split at h
      · rename_i C hC
        obtain ⟨⟨hl⟩, p, hp, hK⟩ := h
        have hs1 : SpsOk gl0 ((124, .lend (ev1C (spOf sps))) :: sps) := hs.cons ⟨Tryd.f124, Tryd.func124, by decide, rfl⟩ (ev124 hs)
        have hs2 : SpsOk gl0 ((57, .lend (contC (spOf ((124, .lend (ev1C (spOf sps))) :: sps)))) :: (124, .lend (ev1C (spOf sps))) :: sps) := hs1.cons ⟨Tryd.f57, Tryd.func57, by decide, rfl⟩ (contC_ok hs1)
        have hK' : ∀ r, r = evF p l.length → K (.d (.v (.bool r))) := fun r hr => by rw [hr]; exact hK
        unfold capD at hcs
        split at hcs
        all_goals (first | (cases hcs; done) | skip)
        all_goals (cases hcs)
        all_goals (refine does_mk noEq_ok hs2 Tryd.func108 {} (fun i g s h => by cases h) [] ?_)
        all_goals (repeat' (first | refine And.intro ?_ ?_ | (refine ev1C_of rfl hC (hp _ ?_) ?_) | intro _ | (refine brK_id ?_; first | with_reducible refine brK_t ?_ | with_reducible refine brK_f ?_ | with_reducible refine brK_dec ?_ ?_ | with_reducible refine brK_ndec ?_ ?_ | refine brK_of ?_ ?_) | exact True.intro | refine hK' _ ?_ | refine Exists.intro (fun i => !p i) ?_))
        all_goals (try (refine ⟨?_⟩))
        all_goals (try with_reducible rfl)
        all_goals (first | assumption | rfl)
      · exact h.elim
    · exact h.elim
  · exact h.elim
/-- ContainsFunc, every of rows -/
def contRC (spg : Nat → Option SpecE) : List AV → (AV → Prop) → Prop
  | [.d (.gen 1 n el), .fn g caps], K => match spg g with
    | some (.lend C) => Ob (n ≤ 1000000) ∧ (∀ mm (K' : List AV → Prop), K' caps → lendsK mm caps K') ∧ ∃ p : Nat → Bool, (∀ i, i < n → isK C (.d (el i 0)) caps (p i)) ∧ K (.d (.v (.bool (anyF p n))))
    | _ => False
  | _, _ => False
theorem contRC_ok {sps : List (Nat × SpecE)} (hs : SpsOk gl0 sps) : Meets P0 gl0 122 (.lend (contRC (spOf sps))) := by
  intro args K h
  unfold contRC at h
  split at h
  · rename_i n el g caps
    split at h
    · rename_i C hC
      obtain ⟨⟨h1⟩, h2, p, h3, h4⟩ := h
      obtain ⟨f1, f2⟩ := hs g _ hC
      exact cont122 n el p h1 g caps C ⟨f1, f2, h2⟩ h3 _ fun mm r hr => ⟨trivial, by rw [hr]; exact h4⟩
    · exact h.elim
  · exact h.elim
def evRC (spg : Nat → Option SpecE) : List AV → (AV → Prop) → Prop
  | [.d (.gen 1 n el), .fn g caps], K => match capD caps with
    | some cs => match spg g with
      | some (.lend C) => Ob (n ≤ 1000000) ∧ ∃ p : Nat → Bool, (∀ i, i < n → isK C (.d (el i 0)) cs (p i)) ∧ K (.d (.v (.bool (evF p n))))
      | _ => False
    | none => False
  | _, _ => False
theorem ev106 {sps : List (Nat × SpecE)} (hs : SpsOk gl0 sps) : Meets P0 gl0 106 (.lend (evRC (spOf sps))) := by
  intro args K h
  unfold evRC at h
  split at h
  · rename_i n el g caps
    split at h
    · rename_i cs hcs
      split at h
      · rename_i C hC
        obtain ⟨⟨hl⟩, p, hp, hK⟩ := h
        have hs1 : SpsOk gl0 ((123, .lend (ev1C (spOf sps))) :: sps) := hs.cons ⟨Tryd.f123, Tryd.func123, by decide, rfl⟩ (ev123 hs)
        have hs2 : SpsOk gl0 ((122, .lend (contRC (spOf ((123, .lend (ev1C (spOf sps))) :: sps)))) :: (123, .lend (ev1C (spOf sps))) :: sps) := hs1.cons ⟨Tryd.f122, Tryd.func122, by decide, rfl⟩ (contRC_ok hs1)
        have hK' : ∀ r, r = evF p n → K (.d (.v (.bool r))) := fun r hr => by rw [hr]; exact hK
        unfold capD at hcs
        split at hcs
        all_goals (first | (cases hcs; done) | skip)
        all_goals (cases hcs)
        all_goals (refine does_mk noEq_ok hs2 Tryd.func106 {} (fun i g s h => by cases h) [] ?_)
        all_goals (repeat' (first | refine And.intro ?_ ?_ | (refine ev1C_of rfl hC (hp _ ?_) ?_) | intro _ | (refine brK_id ?_; first | with_reducible refine brK_t ?_ | with_reducible refine brK_f ?_ | with_reducible refine brK_dec ?_ ?_ | with_reducible refine brK_ndec ?_ ?_ | refine brK_of ?_ ?_) | exact True.intro | refine hK' _ ?_ | refine Exists.intro (fun i => !p i) ?_))
        all_goals (try (refine ⟨?_⟩))
        all_goals (try with_reducible rfl)
        all_goals (first | assumption | rfl)
      · exact h.elim
    · exact h.elim
  · exact h.elim

/-! ### codes -/
structure Cod where
  name : ByteArray
  field : Int
  data : Int
  parity : List (List Int)
  domain : Int
def rowsDV (p : List (List Int)) : DV := .gen 1 p.length fun i _ => .ints .i64 (p.getD i [])
def codCells (c : Cod) : List AV := [.d (.v (.string c.name)), .d (.v (.int .i64 c.field)), .d (.v (.int .i64 c.data)), .d (rowsDV c.parity), .d (.v (.int .i64 c.domain))]
def codAV (c : Cod) : AV := .agg (codCells c)
/-- these elements are these rows -/
def Rows (n : Nat) (el : Nat → Nat → DV) (p : List (List Int)) : Prop := n = p.length ∧ ∀ i, i < n → el i 0 = .ints .i64 (p.getD i [])
theorem Rows.le {n : Nat} {el : Nat → Nat → DV} {p : List (List Int)} (h : Rows n el p) : DLe (.gen 1 n el) (rowsDV p) := by
  obtain ⟨rfl, h⟩ := h
  refine DLe.gen fun i j hi hj => DLe.of_eq ?_
  obtain rfl : j = 0 := by omega
  exact h i hi
theorem Rows.self (p : List (List Int)) : Rows p.length (fun i _ => .ints .i64 (p.getD i [])) p := ⟨rfl, fun _ _ => rfl⟩
def codK (a : AV) (K : Cod → Prop) : Prop :=
  match a with
  | .agg [.d (.v (.string s)), .d (.v (.int .i64 f)), .d (.v (.int .i64 d)), .d (.gen 1 n el), .d (.v (.int .i64 m))] => ∃ p, Ob (Rows n el p) ∧ K ⟨s, f, d, p, m⟩
  | .agg [.d (.v (.string s)), .d (.v (.int .i64 f)), .d (.v (.int .i64 d)), .d (.v (.slice none 0 0)), .d (.v (.int .i64 m))] => K ⟨s, f, d, [], m⟩
  | _ => False
theorem codK_ok {a : AV} {K : Cod → Prop} (h : codK a K) : ∃ c, K c ∧ Le a (codAV c) := by
  unfold codK at h
  split at h
  · obtain ⟨p, ⟨hp⟩, h⟩ := h
    exact ⟨_, h, Le.agg (Les.cons (Le.refl _) (Les.cons (Le.refl _) (Les.cons (Le.refl _) (Les.cons hp.le.le (Les.refl _)))))⟩
  · exact ⟨_, h, Le.agg (Les.cons (Le.refl _) (Les.cons (Le.refl _) (Les.cons (Le.refl _) (Les.cons (DLe.nil_gen 1 _).le (Les.refl _)))))⟩
  · exact h.elim
/-! ### the closures of erasure.Valid -/
def C109 : List AV → (AV → Prop) → Prop
  | [.d (.v (.int .i64 x)), .d (.ep 5 f)], K => match f 1 with
    | .v (.int .i64 m) => K (.d (.v (.bool (okF m x))))
    | _ => False
  | _, _ => False
theorem ok109 : Meets P0 gl0 109 (.lend C109) := by
  intro args K h
  unfold C109 at h
  split at h
  · rename_i x f
    split at h
    · rename_i m hf
      refine Does.conv (args' := [.d (.v (.int .i64 x)), .ep 5 fun j => bif Nat.beq j 1 then .v (.int .i64 m) else f j]) (Les.cons (Le.refl _) (Les.cons ((Le.d_ep _ _).trans (Le.ep fun j hj => ?_)) (Les.refl _))) ?_
      · by_cases hj1 : j = 1
        · subst hj1; exact DLe.of_eq hf
        · refine DLe.of_eq ?_
          cases hb : Nat.beq j 1 with
          | true => exact absurd (Nat.eq_of_beq_eq_true hb) hj1
          | false => rfl
      · have hs : SpsOk gl0 [(105, .lend okC)] := (SpsOk.nil gl0).cons ⟨Tryd.f105, Tryd.func105, by decide, rfl⟩ ok_ok
        have hK' : ∀ r, r = okF m x → K (.d (.v (.bool r))) := fun r hr => by rw [hr]; exact h
        refine does_mk noEq_ok hs Tryd.func109 {} (fun i g s h => by cases h) [] ?_
        repeat' (first | refine And.intro ?_ ?_ | intro _ | (refine brK_id ?_; first | with_reducible refine brK_t ?_ | with_reducible refine brK_f ?_ | with_reducible refine brK_dec ?_ ?_ | with_reducible refine brK_ndec ?_ ?_ | refine brK_of ?_ ?_) | exact True.intro | refine hK' _ ?_)
        all_goals rfl
    · exact h.elim
  · exact h.elim
def C110 : List AV → (AV → Prop) → Prop
  | [.d (.v (.int .i64 x))], K => K (.d (.v (.bool (decide (x = 0)))))
  | _, _ => False
theorem ok110 : Meets P0 gl0 110 (.lend C110) := by
  intro args K h
  unfold C110 at h
  split at h
  · rename_i x
    have hK' : ∀ r, r = decide (x = 0) → K (.d (.v (.bool r))) := fun r hr => by rw [hr]; exact h
    refine does_mk noEq_ok (SpsOk.nil gl0) Tryd.func110 {} (fun i g s h => by cases h) [] ?_
    repeat' (first | refine And.intro ?_ ?_ | intro _ | (refine brK_id ?_; first | with_reducible refine brK_t ?_ | with_reducible refine brK_f ?_ | with_reducible refine brK_dec ?_ ?_ | with_reducible refine brK_ndec ?_ ?_ | refine brK_of ?_ ?_) | exact True.intro | refine hK' _ ?_)
    all_goals (try (refine ⟨?_⟩))
    all_goals rfl
  · exact h.elim
def spsE0 : List (Nat × SpecE) := [(110, .lend C110), (109, .lend C109)]
theorem spsE0_ok : SpsOk gl0 spsE0 := ((SpsOk.nil gl0).cons ⟨Tryd.f109, Tryd.func109, by decide, rfl⟩ ok109).cons ⟨Tryd.f110, Tryd.func110, by decide, rfl⟩ ok110
def spsE1 : List (Nat × SpecE) := [(108, .lend (evC (spOf spsE0)))]
theorem spsE1_ok : SpsOk gl0 spsE1 := (SpsOk.nil gl0).cons ⟨Tryd.f108, Tryd.func108, by decide, rfl⟩ (ev108 spsE0_ok)
def rowOkF (m d : Int) (row : List Int) : Bool := decide ((row.length : Int) = d) && evF (fun i => okF m (row.getD i 0)) row.length && !evF (fun i => decide (row.getD i 0 = 0)) row.length
def C107 : List AV → (AV → Prop) → Prop
  | [.d (.ints .i64 row), .d (.ep 5 f)], K => match f 1, f 2 with
    | .v (.int .i64 m), .v (.int .i64 d) => Ob (d ≤ 32) ∧ K (.d (.v (.bool (rowOkF m d row))))
    | _, _ => False
  | _, _ => False
theorem ok107 : Meets P0 gl0 107 (.lend C107) := by
  intro args K h
  unfold C107 at h
  split at h
  · rename_i row f
    split at h
    · rename_i m d hf1 hf2
      obtain ⟨⟨hd⟩, h⟩ := h
      refine Does.conv (args' := [.d (.ints .i64 row), .d (.ep 5 fun j => bif Nat.beq j 1 then .v (.int .i64 m) else bif Nat.beq j 2 then .v (.int .i64 d) else f j)]) (Les.cons (Le.refl _) (Les.cons (DLe.ep fun j hj => ?_).le (Les.refl _))) ?_
      · refine DLe.of_eq ?_
        by_cases hj1 : j = 1
        · subst hj1; exact hf1
        · by_cases hj2 : j = 2
          · subst hj2; exact hf2
          · cases hb : Nat.beq j 1 with
            | true => exact absurd (Nat.eq_of_beq_eq_true hb) hj1
            | false =>
              cases hb2 : Nat.beq j 2 with
              | true => exact absurd (Nat.eq_of_beq_eq_true hb2) hj2
              | false => rfl
      · have hK' : ∀ r, r = rowOkF m d row → K (.d (.v (.bool r))) := fun r hr => by rw [hr]; exact h
        refine does_mk noEq_ok spsE1_ok Tryd.func107 {} (fun i g s h => by cases h) [] ?_
        repeat' (first | refine And.intro ?_ ?_ | intro _ | (refine brK_id ?_; first | with_reducible refine brK_t ?_ | with_reducible refine brK_f ?_ | with_reducible refine brK_dec ?_ ?_ | with_reducible refine brK_ndec ?_ ?_ | refine brK_of ?_ ?_) | exact True.intro | refine hK' _ ?_ | refine Exists.intro (fun i => okF m (row.getD i 0)) (And.intro (fun i hi K' hK' => hK') ?_) | refine Exists.intro (fun i => decide (row.getD i 0 = 0)) (And.intro (fun i hi K' hK' => hK') ?_))
        all_goals (try (refine ⟨?_⟩))
        all_goals (try with_reducible rfl)
        all_goals (try omega)
        all_goals (unfold rowOkF; simp_all)
    · exact h.elim
  · exact h.elim
def spsE2 : List (Nat × SpecE) := [(107, .lend C107)]
theorem spsE2_ok : SpsOk gl0 spsE2 := (SpsOk.nil gl0).cons ⟨Tryd.f107, Tryd.func107, by decide, rfl⟩ ok107
/-- erasure.Valid -/
def erOk (c : Cod) : Bool := if (!okF c.field 0 || decide (c.data < 1) || decide (32 < (c.parity.length : Int)) || decide (32 - (c.parity.length : Int) < c.data)) = true then false else evF (fun i => rowOkF c.field c.data (c.parity.getD i [])) c.parity.length
def erValidC : List AV → (AV → Prop) → Prop
  | [a], K => codK a fun c => K (.d (.v (.bool (erOk c))))
  | _, _ => False
def spsE3 : List (Nat × SpecE) := (106, .lend (evRC (spOf spsE2))) :: (105, .lend okC) :: spsF8
theorem spsE3_ok : SpsOk gl0 spsE3 := (spsF8_ok.cons ⟨Tryd.f105, Tryd.func105, by decide, rfl⟩ ok_ok).cons ⟨Tryd.f106, Tryd.func106, by decide, rfl⟩ (ev106 spsE2_ok)
theorem erValid_ok : Meets P0 gl0 88 (.lend erValidC) := by
  intro args K h
  unfold erValidC at h
  split at h
  · obtain ⟨c, h, hle⟩ := codK_ok h
    refine Does.conv (args' := [codAV c]) (Les.cons hle (Les.refl _)) ?_
    have hK : ∀ r, r = erOk c → K (.d (.v (.bool r))) := fun r hr => by rw [hr]; exact h
    refine does_mk noEq_ok spsE3_ok Tryd.func88 {} (fun i g s h => by cases h) [] ?_
    repeat' (first | refine And.intro ?_ ?_ | intro _ | (refine brK_id ?_; first | with_reducible refine brK_t ?_ | with_reducible refine brK_f ?_ | with_reducible refine brK_dec ?_ ?_ | with_reducible refine brK_ndec ?_ ?_ | refine brK_of ?_ ?_) | exact True.intro | refine hK _ ?_ | refine Exists.intro (fun i => rowOkF c.field c.data (c.parity.getD i [])) (And.intro (fun i hi K' hK' => ?_) ?_))
    all_goals (try (refine ⟨?_⟩))
    all_goals (try with_reducible rfl)
    all_goals (try omega)
    all_goals (try (unfold in64; omega))
    all_goals (try (unfold erOk; simp_all; done))
  · exact h.elim
/-- erasure.Width -/
def widthF (c : Cod) : Int := if erOk c = true then c.data + (c.parity.length : Int) else 0
def widthC : List AV → (AV → Prop) → Prop
  | [a], K => codK a fun c => K (.d (.v (.int .i64 (widthF c))))
  | _, _ => False
theorem erOk_le {c : Cod} (h : erOk c = true) : (c.field = 8 ∨ c.field = 16) ∧ 1 ≤ c.data ∧ c.data + (c.parity.length : Int) ≤ 32 ∧ ∀ i, i < c.parity.length → rowOkF c.field c.data (c.parity.getD i []) = true := by
  unfold erOk at h
  split at h
  · exact absurd h (by simp)
  · rename_i hc
    simp only [Bool.or_eq_true, Bool.not_eq_true', decide_eq_true_eq, not_or, Bool.not_eq_false] at hc
    obtain ⟨⟨⟨h1, h2⟩, h3⟩, h4⟩ := hc
    refine ⟨?_, by omega, by omega, fun i hi => ?_⟩
    · exact (allF1 (m := c.field) (a := 0) h1).1
    · unfold evF anyF at h
      simp only [Bool.not_eq_true', List.any_eq_false, List.mem_range] at h
      have := h i hi
      simpa using this
def spsE4 : List (Nat × SpecE) := (88, .lend erValidC) :: spsE3
theorem spsE4_ok : SpsOk gl0 spsE4 := spsE3_ok.cons ⟨Tryd.f88, Tryd.func88, by decide, rfl⟩ erValid_ok
theorem width_ok : Meets P0 gl0 60 (.lend widthC) := by
  intro args K h
  unfold widthC at h
  split at h
  · obtain ⟨c, h, hle⟩ := codK_ok h
    refine Does.conv (args' := [codAV c]) (Les.cons hle (Les.refl _)) ?_
    have hK : ∀ r, r = widthF c → K (.d (.v (.int .i64 r))) := fun r hr => by rw [hr]; exact h
    refine does_mk noEq_ok spsE4_ok Tryd.func60 {} (fun i g s h => by cases h) [] ?_
    repeat' (first | refine And.intro ?_ ?_ | intro _ | (refine brK_id ?_; first | with_reducible refine brK_t ?_ | with_reducible refine brK_f ?_ | with_reducible refine brK_dec ?_ ?_ | with_reducible refine brK_ndec ?_ ?_ | refine brK_of ?_ ?_) | exact True.intro | refine hK _ ?_ | refine Exists.intro (α := List (List Int)) c.parity ?_)
    all_goals (try (refine ⟨?_⟩))
    all_goals (try with_reducible rfl)
    all_goals (try (exact Rows.self _))
    all_goals (try (unfold widthF; simp_all; done))
    all_goals (rename_i h1; have h2 := erOk_le (c := c) (by simpa using h1); unfold in64; omega)
  · exact h.elim
end Go.Proofs.YtgdcefohfebleaaDoor.V
/- How a call's end may be told: rows as data, rows cut short, nil as an empty row. -/
set_option linter.unusedVariables false
set_option linter.unusedSimpArgs false
namespace Go.Proofs.YtgdcefohfebleaaDoor.V
open Go Go.Proofs

def cx0 : Cx := { nt := 0, tb := fun _ => none, ann := fun _ => none, sp := fun _ => none, fs := fun _ => none, gl := fun _ => none, wm := fun _ => false, eqt := fun _ => false, nk := fun _ => [], plan := fun _ => none }
def act0 : Act := { tmps := #[], defers := [] }
theorem MS.srep {W0 : World} {ok0 S0 : Nat → Prop} {β0 : Nat → Ent} {mm : MM} {β : Nat → Ent} {w : World} (h : MS W0 ok0 S0 β0 mm β w) : SRep cx0 W0 ok0 S0 β0 [] mm β act0 w :=
  ⟨rfl, Marks.nil _ _, fun t => trivial, h.me, h.inj, h.ow, h.fr, h.fx⟩
def goneK : MM → Prop → Prop
  | [], K => K
  | (_, .gone) :: r, K => goneK r K
  | _, _ => False
theorem goneK_ok : ∀ {mm : MM} {K : Prop}, goneK mm K → (∀ k, lkM k mm = .gone) ∧ K
  | [], K, h => ⟨fun _ => rfl, h⟩
  | (u, .gone) :: r, K, h => by
    obtain ⟨h1, h2⟩ := goneK_ok (mm := r) h
    refine ⟨fun k => ?_, h2⟩
    simp only [lkM]
    cases Nat.beq k u <;> simp [h1]
  | (u, .box _) :: r, K, h => h.elim
  | (u, .row _ _) :: r, K, h => h.elim
/-- what a call hands back is data; it keeps no block -/
def exitD (post : AV → Prop) (mm : MM) (r : AV) : Prop := AV.frzA r [] mm fun _ mm' r' => ∃ r'', Le r' r'' ∧ post r''
theorem MS.same {W0 : World} {ok0 S0 : Nat → Prop} {β0 : Nat → Ent} {mm mm' : MM} {β : Nat → Ent} {w : World} (h : MS W0 ok0 S0 β0 mm β w) (hm : ∀ k, lkM k mm' = lkM k mm) : MS W0 ok0 S0 β0 mm' β w ∧ okB W0 ok0 S0 mm' β w = okB W0 ok0 S0 mm β w := by
  have hl : ∀ k, live mm' β k = live mm β k := fun k => by unfold live; rw [hm k]
  have ho : okB W0 ok0 S0 mm' β w = okB W0 ok0 S0 mm β w := by funext b; unfold okB; simp only [hl]
  refine ⟨⟨fun k => ?_, fun j k hj hk => ?_, fun k hk => ?_, h.fr, h.fx⟩, ho⟩
  · rw [ho, hm k]; exact h.me k
  · rw [hl] at hj hk; exact h.inj j k hj hk
  · rw [hl] at hk; exact h.ow k hk
theorem MS.drop {W0 : World} {ok0 S0 : Nat → Prop} {β0 : Nat → Ent} {mm : MM} {β : Nat → Ent} {w : World} (h : MS W0 ok0 S0 β0 mm β w) : MS W0 ok0 S0 β0 [] β w :=
  ⟨fun k => trivial, fun j k hj => hj.elim, fun k hk => hk.elim, h.fr, h.fx⟩
theorem Does.data {gl : GL} {g : FuncId} {args : List AV} {mm0 : MM} {post : AV → Prop} (h : Does P0 gl g args mm0 (exitD post)) : Does P0 gl g args mm0 fun mm r => mm = [] ∧ post r := by
  intro W β ok0 vs h1 h2 h3
  refine Calls.mono (h W β ok0 vs h1 h2 h3) fun e w' he => ?_
  cases e with
  | returned v =>
    obtain ⟨mm1, β', r, hp, h4, h5⟩ := he
    obtain ⟨tm', mm', r', h6, h7, h8, hk⟩ := frzA_ok r h4.srep hp h5
    obtain ⟨r'', hle, hk⟩ := hk
    exact ⟨[], β', r'', ⟨rfl, hk⟩, h6.ms.drop, AV.rep_mono (fun _ _ => rfl) (fun b hb => ⟨hb.1, hb.2.1, fun k hk => hk.elim⟩) _ (fun _ _ => rfl) (hle _ _ _ _ h8)⟩
  | panicked _ => exact he.elim
  | outgrown => exact he.elim
/-- the meet of a function that hands back data -/
theorem Meets.data {gl : GL} {g : FuncId} {C : List AV → (AV → Prop) → Prop} (h : ∀ args K, C args K → Does P0 gl g args [] (exitD K)) : Meets P0 gl g (.data fun args K => C args fun r => K [] r) := fun args K hC =>
  (h args _ hC).data.mono fun mm r ⟨e, h⟩ => by subst e; exact h
/-- cells that both tell -/
def Pre (r' r : DV) : Prop := r'.isSl = true ∧ r'.width = r.width ∧ r'.len ≤ r.len ∧ ∀ w ok i j v, i < r'.len → (r.cell i j).rep w ok v → (r'.cell i j).rep w ok v
theorem Does.cut {gl : GL} {g : FuncId} {args : List AV} {mm0 : MM} {post : MM → AV → Prop} (h : Does P0 gl g args mm0 fun mm r => post mm r ∨ (∃ e r1 r0, mm = [(0, .row e r1)] ∧ Pre r0 r1 ∧ post [(0, .row e r0)] r) ∨
    (∃ e r0, (∀ k, lkM k mm = .gone) ∧ r = .d (.v (.slice none 0 0)) ∧ DV.isSl r0 = true ∧ DV.len r0 = 0 ∧ post [(0, .row e r0)] (.own 0 0))) : Does P0 gl g args mm0 post := by
  intro W β ok0 vs h1 h2 h3
  refine Calls.mono (h W β ok0 vs h1 h2 h3) fun e w' he => ?_
  cases e with
  | returned v =>
    obtain ⟨mm1, β', r, hp, h4, h5⟩ := he
    rcases hp with hp | ⟨e, r1, r0, rfl, hpre, hp⟩ | ⟨e, r0, hgo, rfl, hs, hl, hp⟩
    · exact ⟨mm1, β', r, hp, h4, h5⟩
    · have hlv : ∀ k, live [(0, .row e r0)] β' k = live [(0, .row e r1)] β' k := fun k => by
        unfold live; simp only [lkM]; cases Nat.beq k 0 <;> rfl
      have ho : okB W ok0 (S0of mm0 β) [(0, .row e r0)] β' w' = okB W ok0 (S0of mm0 β) [(0, .row e r1)] β' w' := by funext b; unfold okB; simp only [hlv]
      refine ⟨_, β', r, hp, ⟨fun k => ?_, fun j k hj hk => ?_, fun k hk => ?_, h4.fr, h4.fx⟩, by rw [ho]; exact h5⟩
      · have hm := h4.me k
        rw [ho]
        simp only [lkM] at hm ⊢
        cases hb : Nat.beq k 0 with
        | false => trivial
        | true =>
          rw [hb] at hm
          simp only [cond_true] at hm ⊢
          obtain ⟨h6, h7⟩ := hm
          refine ⟨hpre.1, ?_⟩
          split
          · rename_i hn
            rw [if_pos hn] at h7
            have := hpre.2.2.1; omega
          · rename_i hn
            rw [if_neg hn] at h7
            obtain ⟨vs, h8, h9, h10, h11⟩ := h7
            refine ⟨vs, h8, by rw [hpre.2.1]; exact h9, by have := hpre.2.2.1; omega, fun i hi j hj => ?_⟩
            rw [hpre.2.1] at hj ⊢
            obtain ⟨u, h12, h13, h14⟩ := h11 i (by have := hpre.2.2.1; omega) j hj
            exact ⟨u, h12, h13, hpre.2.2.2 _ _ i j u hi h14⟩
      · rw [hlv] at hj hk; exact h4.inj j k hj hk
      · rw [hlv] at hk; exact h4.ow k hk
    · have h5 : v = .slice none 0 0 := h5
      subst h5
      have h4 := (h4.same (mm' := []) (fun k => by rw [hgo k]; rfl)).1
      let β2 : Nat → Ent := fun k => if k = 0 then ⟨0, 0, true⟩ else β' k
      have hlv : ∀ k, ¬ live [(0, .row e r0)] β2 k := fun k hk => by
        unfold live at hk
        by_cases hk0 : k = 0
        · subst hk0
          have : (β2 0).nil = true := rfl
          simp only [lkM, beq_self, cond_true, ABlk.lives] at hk
          rw [this] at hk; cases hk
        · simp only [lkM, beq_ne hk0, cond_false, ABlk.lives] at hk
      have hlv' : ∀ k, ¬ live [] β' k := fun k hk => hk
      have ho : okB W ok0 (S0of mm0 β) [(0, .row e r0)] β2 w' = okB W ok0 (S0of mm0 β) [] β' w' := by
        funext b; unfold okB
        have : (∀ k, live [(0, .row e r0)] β2 k → (β2 k).blk ≠ b) = (∀ k, live [] β' k → (β' k).blk ≠ b) := propext ⟨fun _ k hk => (hlv' k hk).elim, fun _ k hk => (hlv k hk).elim⟩
        rw [this]
      refine ⟨_, β2, _, hp, ⟨fun k => ?_, fun j k hj hk => (hlv _ hj).elim, fun k hk => (hlv _ hk).elim, h4.fr, fun k hk => ?_⟩, ?_⟩
      · by_cases hk0 : k = 0
        · subst hk0
          simp only [lkM, beq_self, cond_true]
          refine ⟨hs, ?_⟩
          rw [if_pos (show (β2 0).nil = true from rfl)]
          exact hl
        · simp only [lkM, beq_ne hk0, cond_false]
          trivial
      · have hk0 : k ≠ 0 := by rintro rfl; unfold V.hk at hk; omega
        show (if k = 0 then _ else β' k) = _
        rw [if_neg hk0]; exact h4.fx k hk
      · show Ent.own (β2 0) 0 _
        unfold Ent.own
        rw [if_pos (show (β2 0).nil = true from rfl)]
        exact ⟨rfl, none, rfl⟩
  | panicked _ => exact he.elim
  | outgrown => exact he.elim
/-- the same blocks, told otherwise; the result, told otherwise -/
def exitG (post : MM → AV → Prop) (mm : MM) (r : AV) : Prop := ∃ mm' r', (∀ k, lkM k mm' = lkM k mm) ∧ Le r r' ∧ post mm' r'
theorem Does.ends {gl : GL} {g : FuncId} {args : List AV} {mm0 : MM} {post : MM → AV → Prop} (h : Does P0 gl g args mm0 (exitG post)) : Does P0 gl g args mm0 post := by
  intro W β ok0 vs h1 h2 h3
  refine Calls.mono (h W β ok0 vs h1 h2 h3) fun e w' he => ?_
  cases e with
  | returned v =>
    obtain ⟨mm1, β', r, ⟨mm', r', hlk, hle, hp⟩, h4, h5⟩ := he
    obtain ⟨h9, h10⟩ := h4.same hlk
    exact ⟨mm', β', r', hp, h9, by rw [h10]; exact hle _ _ _ _ h5⟩
  | panicked _ => exact he.elim
  | outgrown => exact he.elim
theorem exitG_self {post : MM → AV → Prop} {mm : MM} {r : AV} (h : post mm r) : exitG post mm r := ⟨mm, r, fun _ => rfl, Le.refl r, h⟩
theorem lkM_gone (k b : Nat) : lkM k [] = lkM k [(b, .gone)] := by simp only [lkM]; cases Nat.beq k b <;> rfl
end Go.Proofs.YtgdcefohfebleaaDoor.V
/- slices.Grow of nil, slices.Concat of ints -/
set_option linter.unusedVariables false
set_option linter.unusedSimpArgs false
namespace Go.Proofs.YtgdcefohfebleaaDoor.V
open Go Go.Proofs

theorem Pre.nil_ints (k : IntKind) (l : List Int) : Pre (.ints k []) (.ints k l) := ⟨rfl, rfl, Nat.zero_le _, fun w ok i j v h => absurd h (Nat.not_lt_zero _)⟩
def growC : List AV → (MM → AV → Prop) → Prop
  | [.d (.v (.slice none 0 0)), .d (.v (.int .i64 n))], K => Ob (0 ≤ n ∧ n ≤ 1099511627776) ∧ K [(0, .row 3 (.ints .i64 []))] (.own 0 0)
  | _, _ => False
theorem grow_ok : Meets P0 gl0 111 (.data growC) := by
  intro args K h
  unfold growC at h
  split at h
  · rename_i n
    obtain ⟨⟨h0, hn⟩, h⟩ := h
    refine Does.cut ?_
    refine does_mk noEq_ok (SpsOk.nil gl0) Tryd.func111 {} (fun i g s h => by cases h) [22] ?_
    repeat' (first | refine And.intro ?_ ?_ | intro _ | (refine brK_id ?_; first | with_reducible refine brK_t ?_ | with_reducible refine brK_f ?_ | with_reducible refine brK_dec ?_ ?_ | with_reducible refine brK_ndec ?_ ?_ | refine brK_of ?_ ?_) | exact True.intro | (refine Or.inr (Or.inl ⟨3, _, .ints .i64 [], rfl, Pre.nil_ints _ _, h⟩)) | (refine Or.inr (Or.inr ⟨3, .ints .i64 [], fun k => ?_, rfl, rfl, rfl, h⟩)))
    all_goals (try (refine ⟨?_⟩))
    all_goals (try with_reducible rfl)
    all_goals (try simp only [maxBytes, in64] at *)
    all_goals (try omega)
    simp only [lkM]; cases Nat.beq k 0 <;> rfl
  · exact h.elim
/-- how many elements the first i rows have -/
def upTo (p : List (List Int)) (i : Nat) : List Int := (p.take i).flatten
theorem upTo_succ {p : List (List Int)} {i : Nat} (h : i < p.length) : upTo p (i + 1) = upTo p i ++ p.getD i [] := by
  unfold upTo
  rw [List.take_succ_eq_append_getElem h, List.flatten_append, List.getD_eq_getElem?_getD, List.getElem?_eq_getElem h]
  simp
theorem upTo_all (p : List (List Int)) : upTo p p.length = p.flatten := by unfold upTo; rw [List.take_length]
theorem upTo_le {p : List (List Int)} : ∀ (i : Nat), i ≤ p.length → (upTo p i).length ≤ p.flatten.length := fun i hi => by
  have h : p.flatten = upTo p i ++ (p.drop i).flatten := by unfold upTo; rw [← List.flatten_append, List.take_append_drop]
  rw [h, List.length_append]; omega
def concatAn (p : List (List Int)) : An := { ann := fun k => bif Nat.beq k 3 then some { ι := Nat, nils := [], vars := fun i => [(11, .d (.v (.int .i64 (i : Int)))), (3, .d (.v (.int .i64 ((upTo p i).length : Int))))], mem := fun i => [], inv := fun i => i ≤ p.length, init := 0, meas := fun i => p.length - i } else bif Nat.beq k 11 then some { ι := Nat, nils := [], vars := fun i => [(27, .d (.v (.int .i64 (i : Int)))), (6, .own 24 (upTo p i).length), (24, .top)], mem := fun i => [(24, .row 3 (.ints .i64 (upTo p i)))], inv := fun i => i ≤ p.length, init := 0, meas := fun i => p.length - i } else none }
def concatC : List AV → (MM → AV → Prop) → Prop
  | [.d (.gen 1 n el)], K => ∃ p, Ob (Rows n el p ∧ p.flatten.length ≤ 1000000 ∧ p.length ≤ 1000000) ∧ ∀ r m, r = p.flatten → m = r.length → K [(0, .row 3 (.ints .i64 r))] (.own 0 m)
  | _, _ => False
def spsC1 : List (Nat × SpecE) := [(111, .data growC)]
theorem spsC1_ok : SpsOk gl0 spsC1 := (SpsOk.nil gl0).cons ⟨Tryd.f111, Tryd.func111, by decide, rfl⟩ grow_ok
set_option maxRecDepth 20000 in
theorem concat_ok : Meets P0 gl0 92 (.data concatC) := by
  intro args K h
  unfold concatC at h
  split at h
  · rename_i n el
    obtain ⟨p, ⟨hr, hl, hp⟩, h⟩ := h
    refine Does.conv (args' := [.d (rowsDV p)]) (Les.cons hr.le.le (Les.refl _)) ?_
    refine does_mk noEq_ok spsC1_ok Tryd.func92 (concatAn p) (fun i g s h => by cases h) [24] ?_
    repeat' (first | refine And.intro ?_ ?_ | intro _ | (refine brK_id ?_; first | with_reducible refine brK_t ?_ | with_reducible refine brK_f ?_ | with_reducible refine brK_dec ?_ ?_ | with_reducible refine brK_ndec ?_ ?_ | refine brK_of ?_ ?_) | exact True.intro | refine h _ _ ?_ ?_ | refine Exists.intro (Nat.succ (by assumption)) ?_)
    all_goals (try (refine ⟨?_⟩))
    all_goals (try with_reducible rfl)
    all_goals (try simp only [maxBytes, in64] at *)
    all_goals (try omega)
    all_goals (try (have hi : (by assumption : Nat) < p.length := by omega))
    all_goals (try (have hu := upTo_succ hi))
    all_goals (try (have hv := upTo_le _ (show (by assumption : Nat) + 1 ≤ p.length by omega)))
    all_goals (try (have hv0 := upTo_le _ (show (by assumption : Nat) ≤ p.length by omega)))
    all_goals (try (rw [hu] at hv))
    all_goals (try simp only [DV.len, Int.toNat_natCast, List.length_append, Nat.succ_eq_add_one] at *)
    all_goals (try omega)
    all_goals (try (rw [hu]; done))
    all_goals (try (rw [hu, List.length_append]; done))
    all_goals (try (rw [hu, List.length_append]; omega))
    all_goals (try (rw [← upTo_all]; congr 1; omega))
    all_goals (try (exact rfl))
  · exact h.elim
end Go.Proofs.YtgdcefohfebleaaDoor.V
/- matrix.Valid, row, zero, add -/
set_option linter.unusedVariables false
set_option linter.unusedSimpArgs false
namespace Go.Proofs.YtgdcefohfebleaaDoor.V
open Go Go.Proofs

/-! ### matrix.Valid -/
def badM (m x : Int) : Bool := decide (x < 0) || decide (2 ^ m.toNat ≤ x)
def C112 : List AV → (AV → Prop) → Prop
  | [.d (.v (.int .i64 x)), .ep 4 f], K => match f 0 with
    | .v (.int .i64 m) => Ob (m = 8 ∨ m = 16) ∧ K (.d (.v (.bool (badM m x))))
    | _ => False
  | _, _ => False
theorem ok112 : Meets P0 gl0 112 (.lend C112) := by
  intro args K h
  unfold C112 at h
  split at h
  · rename_i x f
    split at h
    · rename_i m hf
      obtain ⟨⟨hm⟩, h⟩ := h
      refine Does.conv (args' := [.d (.v (.int .i64 x)), .ep 4 fun j => bif Nat.beq j 0 then .v (.int .i64 m) else f j]) (Les.cons (Le.refl _) (Les.cons (Le.ep fun j hj => ?_) (Les.refl _))) ?_
      · refine DLe.of_eq ?_
        by_cases hj1 : j = 0
        · subst hj1; exact hf
        · cases hb : Nat.beq j 0 with
          | true => exact absurd (Nat.eq_of_beq_eq_true hb) hj1
          | false => rfl
      · have hK' : ∀ r, r = badM m x → K (.d (.v (.bool r))) := fun r hr => by rw [hr]; exact h
        refine does_mk noEq_ok (SpsOk.nil gl0) Tryd.func112 {} (fun i g s h => by cases h) [] ?_
        repeat' (first | refine And.intro ?_ ?_ | intro _ | (refine brK_id ?_; first | with_reducible refine brK_t ?_ | with_reducible refine brK_f ?_ | with_reducible refine brK_dec ?_ ?_ | with_reducible refine brK_ndec ?_ ?_ | refine brK_of ?_ ?_) | exact True.intro | refine hK' _ ?_)
        all_goals (try (refine ⟨?_⟩))
        all_goals (try with_reducible rfl)
        all_goals (rcases hm with rfl | rfl)
        all_goals (try omega)
        all_goals (try (unfold in64; decide))
        all_goals (have e8 : min (8 : Nat) IntKind.i64.bits = 8 := rfl)
        all_goals (have e16 : min (16 : Nat) IntKind.i64.bits = 16 := rfl)
        all_goals (try (have hx : ¬ x < 0 := by omega))
        all_goals (unfold badM; simp_all)
        all_goals omega
    · exact h.elim
  · exact h.elim
def spsM1 : List (Nat × SpecE) := [(112, .lend C112)]
theorem spsM1_ok : SpsOk gl0 spsM1 := (SpsOk.nil gl0).cons ⟨Tryd.f112, Tryd.func112, by decide, rfl⟩ ok112
def spsM2 : List (Nat × SpecE) := (57, .lend (contC (spOf spsM1))) :: spsF8
theorem spsM2_ok : SpsOk gl0 spsM2 := spsF8_ok.cons ⟨Tryd.f57, Tryd.func57, by decide, rfl⟩ (contC_ok spsM1_ok)
theorem mul32 {r c : Int} (h1 : 0 ≤ r) (h2 : r ≤ 32) (h3 : 0 ≤ c) (h4 : c ≤ 32) : 0 ≤ r * c ∧ r * c ≤ 1024 :=
  ⟨Int.mul_nonneg h1 h3, by
    calc r * c ≤ 32 * c := Int.mul_le_mul_of_nonneg_right h2 h3
      _ ≤ 32 * 32 := Int.mul_le_mul_of_nonneg_left h4 (by omega)
      _ = 1024 := rfl⟩
structure Mat where
  field : Int
  rows : Int
  cols : Int
  cell : List Int
def matAV (a : Mat) : AV := .agg [.d (.v (.int .i64 a.field)), .d (.v (.int .i64 a.rows)), .d (.v (.int .i64 a.cols)), .d (.ints .i64 a.cell)]
def matOk (a : Mat) : Bool := if ((a.field ≠ 8 ∧ a.field ≠ 16) ∨ (if a.cols < a.rows then a.cols else a.rows) < 0 ∨ 32 < (if a.rows < a.cols then a.cols else a.rows) ∨ (a.cell.length : Int) ≠ a.rows * a.cols) then false else !anyF (fun i => badM a.field (a.cell.getD i 0)) a.cell.length
def matC : List AV → (AV → Prop) → Prop
  | [.agg [.d (.v (.int .i64 f)), .d (.v (.int .i64 r)), .d (.v (.int .i64 c)), .d (.ints .i64 l)]], K => K (.d (.v (.bool (matOk ⟨f, r, c, l⟩))))
  | _, _ => False
set_option maxRecDepth 20000 in
theorem mat_ok : Meets P0 gl0 93 (.lend matC) := by
  intro args K h
  unfold matC at h
  split at h
  · rename_i f r c l
    have hK : ∀ b, b = matOk ⟨f, r, c, l⟩ → K (.d (.v (.bool b))) := fun r hr => by rw [hr]; exact h
    refine does_mk noEq_ok spsM2_ok Tryd.func93 {} (fun i g s h => by cases h) [] ?_
    repeat' (first | refine And.intro ?_ ?_ | intro _ | (refine brK_id ?_; first | with_reducible refine brK_t ?_ | with_reducible refine brK_f ?_ | with_reducible refine brK_dec ?_ ?_ | with_reducible refine brK_ndec ?_ ?_ | refine brK_of ?_ ?_) | exact True.intro | refine hK _ ?_ | refine Exists.intro (fun i => badM f (l.getD i 0)) (And.intro (fun i hi K' hK' => ⟨?_, hK'⟩) ?_))
    all_goals (try (refine ⟨?_⟩))
    all_goals (try with_reducible rfl)
    all_goals (try assumption)
    all_goals (try (have hb : 0 ≤ r ∧ r ≤ 32 ∧ 0 ≤ c ∧ c ≤ 32 := by (repeat' split at *) <;> omega))
    all_goals (try (obtain ⟨h1, h2, h3, h4⟩ := hb; have hrc := mul32 h1 h2 h3 h4))
    all_goals (try omega)
    all_goals (try (unfold in64; omega))
    all_goals (unfold matOk; simp_all)
  · exact h.elim
/-! ### matrix.row -/
theorem Does.gone {gl : GL} {g : FuncId} {args : List AV} {k : Nat} {post : MM → AV → Prop} (h : Does P0 gl g args [(k, .gone)] post) : Does P0 gl g args [] post := by
  intro W β ok0 vs h1 h2 h3
  have hlk : ∀ j, lkM j [(k, .gone)] = lkM j [] := fun j => by simp only [lkM]; cases Nat.beq j k <;> rfl
  have hS : S0of [(k, .gone)] β = S0of [] β := by
    funext b; unfold S0of live; simp only [hlk]
  have h4 := h2.same (mm' := [(k, .gone)]) hlk
  have := h W β ok0 vs (by rw [hS]; exact h1) (by rw [hS]; exact h4.1) (by rw [hS, h4.2]; exact h3)
  rw [hS] at this
  exact this
theorem toNat_mul {i c : Int} (hi : 0 ≤ i) (hc : 0 ≤ c) : (i * c).toNat = i.toNat * c.toNat := by
  obtain ⟨i, rfl⟩ := Int.eq_ofNat_of_zero_le hi
  obtain ⟨c, rfl⟩ := Int.eq_ofNat_of_zero_le hc
  rw [← Int.natCast_mul]; rfl
theorem bnd {i c : Int} (hi : 0 ≤ i) (hc : 0 ≤ c) (hi2 : i ≤ 10000) (hc2 : c ≤ 10000) : 0 ≤ i * c ∧ i * c ≤ 100000000 ∧ (i + 1) * c = i * c + c :=
  ⟨Int.mul_nonneg hi hc, by
    calc i * c ≤ 10000 * c := Int.mul_le_mul_of_nonneg_right hi2 hc
      _ ≤ 10000 * 10000 := Int.mul_le_mul_of_nonneg_left hc2 (by omega)
      _ = 100000000 := rfl, by rw [Int.add_mul, Int.one_mul]⟩
theorem bif_ok {b : Bool} {A : Prop} (h : bif b then A else False) : b = true ∧ A := by
  cases b
  · exact h.elim
  · exact ⟨rfl, h⟩
/-- row i of a matrix told by its elements -/
def rowAt (l : List Int) (i c : Nat) : List Int := (l.take (i * c + c)).drop (i * c)
def rowC : List AV → (AV → Prop) → Prop
  | [.agg [.d (.v (.int .i64 m)), .d (.v (.int .i64 r)), .d (.v (.int .i64 c)), a], .d (.v (.int .i64 i))], K => match a with
    | .d (.ints .i64 l) => Ob (0 ≤ i ∧ i ≤ 10000 ∧ 0 ≤ c ∧ c ≤ 10000 ∧ (i + 1) * c ≤ l.length) ∧ K (.d (.ints .i64 (rowAt l i.toNat c.toNat)))
    | .own b n => bif Nat.beq b 1048576 then Ob (0 ≤ i ∧ i ≤ 10000 ∧ 0 ≤ c ∧ c ≤ 10000 ∧ (i + 1) * c ≤ n) ∧ K (.seg 1048576 1 (i.toNat * c.toNat) c.toNat) else False
    | _ => False
  | _, _ => False
theorem row_ok : Meets P0 gl0 94 (.view rowC) := by
  intro args K h
  unfold rowC at h
  split at h
  · rename_i m r c a i
    split at h
    · rename_i l
      obtain ⟨⟨h0, h1, h2, h3, h4⟩, h⟩ := h
      obtain ⟨b1, b2, b3⟩ := bnd h0 h2 h1 h3
      have hK : ∀ l2, l2 = rowAt l i.toNat c.toNat → K (.d (.ints .i64 l2)) := fun r hr => by rw [hr]; exact h
      refine does_mk noEq_ok (SpsOk.nil gl0) Tryd.func94 {} (fun i g s h => by cases h) [] ?_
      repeat' (first | refine And.intro ?_ ?_ | intro _ | (refine brK_id ?_; first | with_reducible refine brK_t ?_ | with_reducible refine brK_f ?_ | with_reducible refine brK_dec ?_ ?_ | with_reducible refine brK_ndec ?_ ?_ | refine brK_of ?_ ?_) | exact True.intro | refine hK _ ?_)
      all_goals (try (refine ⟨?_⟩))
      all_goals (try with_reducible rfl)
      all_goals (try (unfold in64))
      all_goals (try rw [b3])
      all_goals (try omega)
      unfold rowAt
      rw [toNat_mul h0 h2]
      congr 2
      rw [Int.toNat_add b1 h2, toNat_mul h0 h2]
    · rename_i b n
      obtain ⟨hb, h⟩ := bif_ok h
      obtain rfl := Nat.eq_of_beq_eq_true hb
      obtain ⟨⟨h0, h1, h2, h3, h4⟩, h⟩ := h
      obtain ⟨b1, b2, b3⟩ := bnd h0 h2 h1 h3
      have hK : ∀ o n, o = i.toNat * c.toNat → n = c.toNat → K (.seg 1048576 1 o n) := fun o n ho hn => by rw [ho, hn]; exact h
      refine Does.gone (k := 1048576) ?_
      refine does_mk noEq_ok (SpsOk.nil gl0) Tryd.func94 {} (fun i g s h => by cases h) [] ?_
      repeat' (first | refine And.intro ?_ ?_ | intro _ | (refine brK_id ?_; first | with_reducible refine brK_t ?_ | with_reducible refine brK_f ?_ | with_reducible refine brK_dec ?_ ?_ | with_reducible refine brK_ndec ?_ ?_ | refine brK_of ?_ ?_) | exact True.intro | refine hK _ _ ?_ ?_)
      all_goals (try (refine ⟨?_⟩))
      all_goals (try with_reducible rfl)
      all_goals (try (unfold in64))
      all_goals (try rw [b3])
      all_goals (try omega)
      all_goals (exact toNat_mul h0 h2)
    · exact h.elim
  · exact h.elim
/-! ### matrix.zero -/
def zeroC : List AV → (MM → AV → Prop) → Prop
  | [.d (.v (.int .i64 m)), .d (.v (.int .i64 r)), .d (.v (.int .i64 c))], K => Ob (0 ≤ r ∧ r ≤ 10000 ∧ 0 ≤ c ∧ c ≤ 10000) ∧ K [(0, .row 3 (.ints .i64 (List.replicate (r * c).toNat 0)))] (.agg [.d (.v (.int .i64 m)), .d (.v (.int .i64 r)), .d (.v (.int .i64 c)), .own 0 (r * c).toNat])
  | _, _ => False
theorem zero_ok : Meets P0 gl0 113 (.data zeroC) := by
  intro args K h
  unfold zeroC at h
  split at h
  · rename_i m r c
    obtain ⟨⟨h0, h1, h2, h3⟩, h⟩ := h
    obtain ⟨b1, b2, b3⟩ := bnd h0 h2 h1 h3
    refine does_mk noEq_ok (SpsOk.nil gl0) Tryd.func113 {} (fun i g s h => by cases h) [13] ?_
    repeat' (first | refine And.intro ?_ ?_ | intro _ | (refine brK_id ?_; first | with_reducible refine brK_t ?_ | with_reducible refine brK_f ?_ | with_reducible refine brK_dec ?_ ?_ | with_reducible refine brK_ndec ?_ ?_ | refine brK_of ?_ ?_) | exact True.intro | exact h)
    all_goals (try (refine ⟨?_⟩))
    all_goals (try with_reducible rfl)
    all_goals (try (unfold in64))
    all_goals (try simp only [maxBytes])
    all_goals (try omega)
  · exact h.elim
/-! ### matrix.add -/
def xorI (x y : Int) : Int := ((x.toNat ^^^ y.toNat : Nat) : Int)
/-- the first k elements from o1 on take their share of those from o2 on -/
def addN (m f : Int) (o1 o2 : Nat) : Nat → List Int → List Int
  | 0, l => l
  | k + 1, l => (addN m f o1 o2 k l).set (o1 + k) (xorI ((addN m f o1 o2 k l).getD (o1 + k) 0) (timesF m f ((addN m f o1 o2 k l).getD (o2 + k) 0)))
/-- elements of a field of 8 or 16 bits -/
def In16 (l : List Int) : Prop := ∀ i, 0 ≤ l.getD i 0 ∧ l.getD i 0 < 65536
theorem prodN_lt {m a b : Nat} (hm : m = 8 ∨ m = 16) (ha : a < 2 ^ m) : ∀ k out, out < 2 ^ m → prodN m a b k out < 2 ^ m
  | 0, out, h => h
  | k + 1, out, h => prodN_lt hm ha k _ (prodStep_lt hm ha h)
theorem times_lt (m a b : Int) : 0 ≤ timesF m a b ∧ timesF m a b < 65536 := by
  unfold timesF
  split
  · rename_i h
    obtain ⟨hm, ha, hb⟩ := allF2 h
    obtain ⟨a, rfl, ha2⟩ := badF_lt hm ha
    unfold mulF
    rw [Int.toNat_natCast]
    have h1 : m.toNat = 8 ∨ m.toNat = 16 := by omega
    have h2 := prodN_lt (b := b.toNat) h1 (by simpa using ha2) m.toNat 0 (Nat.pow_pos (by omega))
    have h3 : (2 : Nat) ^ m.toNat ≤ 65536 := by rcases h1 with e | e <;> rw [e] <;> decide
    omega
  · omega
theorem xorI_lt {x y : Int} (h : 0 ≤ x ∧ x < 65536) (h' : 0 ≤ y ∧ y < 65536) : 0 ≤ xorI x y ∧ xorI x y < 65536 := by
  unfold xorI
  have := Nat.xor_lt_two_pow (n := 16) (show x.toNat < 2 ^ 16 by omega) (show y.toNat < 2 ^ 16 by omega)
  omega
theorem getD_setI (l : List Int) (i j : Nat) (x : Int) : (l.set i x).getD j 0 = if i = j ∧ i < l.length then x else l.getD j 0 := by
  simp only [List.getD_eq_getElem?_getD, List.getElem?_set]
  by_cases h : i = j
  · subst h
    by_cases h2 : i < l.length
    · simp [h2]
    · simp [h2, List.getElem?_eq_none (by omega : l.length ≤ i)]
  · simp [h]
theorem In16.set {l : List Int} (h : In16 l) (i : Nat) {x : Int} (hx : 0 ≤ x ∧ x < 65536) : In16 (l.set i x) := fun j => by
  rw [getD_setI]; split
  · exact hx
  · exact h j
theorem addN_len (m f : Int) (o1 o2 : Nat) : ∀ k l, (addN m f o1 o2 k l).length = l.length
  | 0, l => rfl
  | k + 1, l => by simp only [addN, List.length_set, addN_len m f o1 o2 k l]
theorem addN_in {m f : Int} {o1 o2 : Nat} : ∀ k {l}, In16 l → In16 (addN m f o1 o2 k l)
  | 0, l, h => h
  | k + 1, l, h => (addN_in k h).set _ (xorI_lt (addN_in k h _) (times_lt _ _ _))
def planAdd : Plan := .take 0 (.take 1 (.take 2 (.take 3 (.take 4 (.take 5 (.take 6 (.alt 7 (.take 8 (.take 9 (.alt 10 (.done) (.done)))) (.done))))))))
def addAn (m f : Int) (o1 o2 n : Nat) (l : List Int) : An := { plan := fun k => bif Nat.beq k 3 then some planAdd else none, ann := fun k => bif Nat.beq k 1 then some { ι := Nat, nils := [], vars := fun i => [(12, .d (.v (.int .i64 (i : Int))))], mem := fun i => [(1048576, .row 3 (.ints .i64 (addN m f o1 o2 i l)))], inv := fun i => i ≤ n, init := 0, meas := fun i => n - i } else none }
def addC : List AV → MM → (MM → AV → Prop) → Prop
  | [.d (.v (.int .i64 m)), .seg b1 k1 o1 n, .seg b2 k2 o2 n', .d (.v (.int .i64 f))], [(b, .row e (.ints .i64 l))], K => bif Nat.beq b1 1048576 && (Nat.beq k1 1 && (Nat.beq b2 1048576 && (Nat.beq k2 1 && (Nat.beq b 1048576 && Nat.beq e 3)))) then Ob (n' = n ∧ o1 + n ≤ l.length ∧ o2 + n ≤ l.length ∧ n ≤ 1000000 ∧ In16 l) ∧ ∀ l', l' = addN m f o1 o2 n l → K [(1048576, .row 3 (.ints .i64 l'))] (.tup []) else False
  | _, _, _ => False
attribute [local irreducible] timesF xorI
theorem add_ok : Meets P0 gl0 117 (.heap addC) := by
  intro args mm0 K h
  unfold addC at h
  split at h
  · rename_i m b1 k1 o1 n b2 k2 o2 n' f b e l
    obtain ⟨hb, h⟩ := bif_ok h
    simp only [Bool.and_eq_true] at hb
    obtain ⟨e1, e2, e3, e4, e5, e6⟩ := hb
    obtain rfl := Nat.eq_of_beq_eq_true e1
    obtain rfl := Nat.eq_of_beq_eq_true e2
    obtain rfl := Nat.eq_of_beq_eq_true e3
    obtain rfl := Nat.eq_of_beq_eq_true e4
    obtain rfl := Nat.eq_of_beq_eq_true e5
    obtain rfl := Nat.eq_of_beq_eq_true e6
    clear e1 e2 e3 e4 e5 e6
    obtain ⟨⟨rfl, h1, h2, h3, h4⟩, h⟩ := h
    refine does_mk noEq_ok spsF6_ok Tryd.func117 (addAn m f o1 o2 n' l) (fun i g s h => by cases h) [] ?_
    repeat' (first | refine And.intro ?_ ?_ | intro _ | (refine brK_id ?_; first | with_reducible refine brK_t ?_ | with_reducible refine brK_f ?_ | with_reducible refine brK_dec ?_ ?_ | with_reducible refine brK_ndec ?_ ?_ | refine brK_of ?_ ?_) | exact True.intro | refine h _ ?_ | refine Exists.intro (Nat.succ (by assumption)) ?_)
    all_goals (try (refine ⟨?_⟩))
    all_goals (try with_reducible rfl)
    all_goals (try (exact ⟨by kernel_rfl, by kernel_rfl⟩))
    all_goals (try (have hx : (by assumption : Nat) < n' := by omega))
    all_goals (try (have hl := addN_len m f o1 o2 (by assumption : Nat) l))
    all_goals (try simp only [DV.len, Int.toNat_natCast, Nat.succ_eq_add_one])
    all_goals (try omega)
    all_goals (try (unfold in64; omega))
    · rfl
    · have e1 := addN_in (m := m) (f := f) (o1 := o1) (o2 := o2) (by assumption : Nat) h4 (o1 + (by assumption : Nat))
      have e2 := times_lt m f ((addN m f o1 o2 (by assumption : Nat) l).getD (o2 + (by assumption : Nat)) 0)
      unfold pos64; omega
    · simp only [addN]
      unfold xorI; rfl
    · congr 1; omega
  · exact h.elim
end Go.Proofs.YtgdcefohfebleaaDoor.V
/- matrix.reduce$1: two rows change places -/
set_option linter.unusedVariables false
set_option linter.unusedSimpArgs false
namespace Go.Proofs.YtgdcefohfebleaaDoor.V
open Go Go.Proofs

/-- the first k elements from o1 on and from o2 on change places -/
def swapN (o1 o2 : Nat) : Nat → List Int → List Int
  | 0, l => l
  | k + 1, l => ((swapN o1 o2 k l).set (o1 + k) ((swapN o1 o2 k l).getD (o2 + k) 0)).set (o2 + k) ((swapN o1 o2 k l).getD (o1 + k) 0)
theorem swapN_len (o1 o2 : Nat) : ∀ k l, (swapN o1 o2 k l).length = l.length
  | 0, l => rfl
  | k + 1, l => by simp only [swapN, List.length_set, swapN_len o1 o2 k l]
theorem swapN_in {o1 o2 : Nat} : ∀ k {l}, In16 l → In16 (swapN o1 o2 k l)
  | 0, l, h => h
  | k + 1, l, h => ((swapN_in k h).set _ (swapN_in k h _)).set _ (swapN_in k h _)
def planSwap0 : Plan := .take 0 (.take 1 (.take 3 (.take 4 (.alt 2 (.alt 5 (.take 6 (.take 7 (.done))) (.done)) (.done)))))
def planSwap4 : Plan := .take 0 (.take 1 (.take 2 (.take 3 (.take 4 (.take 5 (.take 6 (.take 7 (.take 8 (.take 9 (.take 10 (.take 11 (.take 12 (.alt 13 (.take 14 (.alt 15 (.done) (.done))) (.done))))))))))))))
def swapAn (m r c : Int) (o1 o2 n : Nat) (l : List Int) : An := { plan := fun k => bif Nat.beq k 0 then some planSwap0 else bif Nat.beq k 4 then some planSwap4 else none, ann := fun k => bif Nat.beq k 2 then some { ι := Nat, nils := [], vars := fun i => [(16, .d (.v (.int .i64 (i : Int))))], mem := fun i => [(1048576, .row 3 (.ints .i64 (swapN o1 o2 i l)))], inv := fun i => i ≤ n, init := 0, meas := fun i => n - i } else none }
def swapC : List AV → MM → (MM → AV → Prop) → Prop
  | [.d (.v (.int .i64 i)), .d (.v (.int .i64 k)), .bp b1 z], [(b2, .row e (.ints .i64 l)), (b3, .box [.d (.v (.int .i64 m)), .d (.v (.int .i64 r)), .d (.v (.int .i64 c)), .own b4 n])], K =>
    bif Nat.beq b1 1048577 && (Nat.beq z 0 && (Nat.beq b2 1048576 && (Nat.beq e 3 && (Nat.beq b3 1048577 && Nat.beq b4 1048576)))) then Ob (0 ≤ i ∧ i ≤ 10000 ∧ 0 ≤ k ∧ k ≤ 10000 ∧ 0 ≤ c ∧ c ≤ 10000 ∧ (i + 1) * c ≤ n ∧ (k + 1) * c ≤ n ∧ n = l.length) ∧ ∀ l', l' = swapN (i.toNat * c.toNat) (k.toNat * c.toNat) c.toNat l →
      K [(1048576, .row 3 (.ints .i64 l')), (1048577, .box [.d (.v (.int .i64 m)), .d (.v (.int .i64 r)), .d (.v (.int .i64 c)), .own 1048576 n])] (.tup []) else False
  | _, _, _ => False
def spsM3 : List (Nat × SpecE) := (117, .heap addC) :: (113, .data zeroC) :: (94, .view rowC) :: (93, .lend matC) :: spsF8
theorem spsM3_ok : SpsOk gl0 spsM3 := (((spsF8_ok.cons ⟨Tryd.f93, Tryd.func93, by decide, rfl⟩ mat_ok).cons ⟨Tryd.f94, Tryd.func94, by decide, rfl⟩ row_ok).cons ⟨Tryd.f113, Tryd.func113, by decide, rfl⟩ zero_ok).cons ⟨Tryd.f117, Tryd.func117, by decide, rfl⟩ add_ok
theorem row_in {i c n : Int} (hi : 0 ≤ i) (hc : 0 ≤ c) (h : (i + 1) * c ≤ n) : i.toNat * c.toNat + c.toNat ≤ n.toNat := by
  rw [Int.add_mul, Int.one_mul] at h
  have h1 := Int.mul_nonneg hi hc
  rw [← toNat_mul hi hc]; omega
set_option maxRecDepth 20000 in
theorem swap_ok : Meets P0 gl0 114 (.heap swapC) := by
  intro args mm0 K h
  unfold swapC at h
  split at h
  · rename_i i k b1 z b2 e l b3 m r c b4 n
    obtain ⟨hb, h⟩ := bif_ok h
    simp only [Bool.and_eq_true] at hb
    obtain ⟨e1, e2, e3, e4, e5, e6⟩ := hb
    obtain rfl := Nat.eq_of_beq_eq_true e1
    obtain rfl := Nat.eq_of_beq_eq_true e2
    obtain rfl := Nat.eq_of_beq_eq_true e3
    obtain rfl := Nat.eq_of_beq_eq_true e4
    obtain rfl := Nat.eq_of_beq_eq_true e5
    obtain rfl := Nat.eq_of_beq_eq_true e6
    clear e1 e2 e3 e4 e5 e6
    obtain ⟨⟨h0, h1, h2, h3, h4, h5, h6, h7, h8⟩, h⟩ := h
    have r1 := row_in h0 h4 h6
    have r2 := row_in h2 h4 h7
    refine does_mk noEq_ok spsM3_ok Tryd.func114 (swapAn m r c (i.toNat * c.toNat) (k.toNat * c.toNat) c.toNat l) (fun i g s h => by cases h) [] ?_
    repeat' (first | refine And.intro ?_ ?_ | intro _ | (refine brK_id ?_; first | with_reducible refine brK_t ?_ | with_reducible refine brK_f ?_ | with_reducible refine brK_dec ?_ ?_ | with_reducible refine brK_ndec ?_ ?_ | refine brK_of ?_ ?_) | exact True.intro | refine h _ ?_ | refine Exists.intro (Nat.succ (by assumption)) ?_)
    all_goals (try (refine ⟨?_⟩))
    all_goals (try with_reducible rfl)
    all_goals (try (exact ⟨by kernel_rfl, by kernel_rfl⟩))
    all_goals (try (have hl := swapN_len (i.toNat * c.toNat) (k.toNat * c.toNat) (by assumption : Nat) l))
    all_goals (try simp only [DV.len, Int.toNat_natCast, Nat.succ_eq_add_one])
    all_goals (try omega)
    all_goals (try (unfold in64; omega))
    all_goals (try (exact rfl))
    all_goals (try (rw [List.length_set]; omega))
    · congr 1; omega
  · exact h.elim
end Go.Proofs.YtgdcefohfebleaaDoor.V
/- matrix.reduce -/
set_option linter.unusedVariables false
set_option linter.unusedSimpArgs false
namespace Go.Proofs.YtgdcefohfebleaaDoor.V
open Go Go.Proofs

/-- the first of f rows from i on with something at column j -/
def findN (c j : Nat) (l : List Int) : Nat → Nat → Option Nat
  | 0, _ => none
  | f + 1, i => if l.getD (i * c + j) 0 = 0 then findN c j l f (i + 1) else some i
/-- the first k elements from o on become their share -/
def scaleN (m f : Int) (o : Nat) : Nat → List Int → List Int
  | 0, l => l
  | k + 1, l => (scaleN m f o k l).set (o + k) (timesF m f ((scaleN m f o k l).getD (o + k) 0))
/-- the first i rows, but for row r, lose what they have at column j -/
def elimN (m : Int) (c r j : Nat) : Nat → List Int → List Int
  | 0, l => l
  | i + 1, l => if i = r then elimN m c r j i l else addN m ((elimN m c r j i l).getD (i * c + j) 0) (i * c) (r * c) c (elimN m c r j i l)
/-- one column -/
def colN (m : Int) (n c j : Nat) (s : List Int × List Int) : List Int × List Int :=
  match findN c j s.1 (n - s.2.length) s.2.length with
  | none => s
  | some i =>
    let r := s.2.length
    let l1 := swapN (i * c) (r * c) c s.1
    let l2 := scaleN m (InvF m (l1.getD (r * c + j) 0)) (r * c) c l1
    (elimN m c r j n l2, s.2 ++ [(j : Int)])
/-- the first k columns -/
def colsN (m : Int) (n c : Nat) : Nat → List Int × List Int → List Int × List Int
  | 0, s => s
  | k + 1, s => colN m n c k (colsN m n c k s)
theorem scaleN_len (m f : Int) (o : Nat) : ∀ k l, (scaleN m f o k l).length = l.length
  | 0, l => rfl
  | k + 1, l => by simp only [scaleN, List.length_set, scaleN_len m f o k l]
theorem scaleN_in {m f : Int} {o : Nat} : ∀ k {l}, In16 l → In16 (scaleN m f o k l)
  | 0, l, h => h
  | k + 1, l, h => (scaleN_in k h).set _ (times_lt _ _ _)
theorem elimN_len (m : Int) (c r j : Nat) : ∀ i l, (elimN m c r j i l).length = l.length
  | 0, l => rfl
  | i + 1, l => by
    simp only [elimN]; split
    · exact elimN_len m c r j i l
    · rw [addN_len, elimN_len m c r j i l]
theorem elimN_in {m : Int} {c r j : Nat} : ∀ i {l}, In16 l → In16 (elimN m c r j i l)
  | 0, l, h => h
  | i + 1, l, h => by
    simp only [elimN]; split
    · exact elimN_in i h
    · exact addN_in _ (elimN_in i h)
theorem findN_some {c j : Nat} {l : List Int} : ∀ {f i k}, findN c j l f i = some k → i ≤ k ∧ k < i + f
  | 0, i, k, h => by cases h
  | f + 1, i, k, h => by
    simp only [findN] at h
    split at h
    · have := findN_some h; omega
    · cases h; omega
theorem colN_ok {m : Int} {n c j : Nat} {s : List Int × List Int} (hl : s.1.length = n * c) (hi : In16 s.1) (hp : s.2.length ≤ n) :
    (colN m n c j s).1.length = n * c ∧ In16 (colN m n c j s).1 ∧ (colN m n c j s).2.length ≤ n := by
  unfold colN
  split
  · exact ⟨hl, hi, hp⟩
  · rename_i i h
    have := findN_some h
    refine ⟨?_, elimN_in _ (scaleN_in _ (swapN_in _ hi)), ?_⟩
    · show (elimN _ _ _ _ _ _).length = _
      rw [elimN_len, scaleN_len, swapN_len, hl]
    · show (s.2 ++ [(j : Int)]).length ≤ n
      simp; omega
theorem colsN_ok {m : Int} {n c : Nat} : ∀ {k} {s : List Int × List Int}, s.1.length = n * c → In16 s.1 → s.2.length ≤ n →
    (colsN m n c k s).1.length = n * c ∧ In16 (colsN m n c k s).1 ∧ (colsN m n c k s).2.length ≤ n
  | 0, s, h1, h2, h3 => ⟨h1, h2, h3⟩
  | k + 1, s, h1, h2, h3 => by
    obtain ⟨h4, h5, h6⟩ := colsN_ok (m := m) (n := n) (c := c) (k := k) h1 h2 h3
    exact colN_ok h4 h5 h6
end Go.Proofs.YtgdcefohfebleaaDoor.V
/- matrix.Transpose, Pick -/
set_option linter.unusedVariables false
set_option linter.unusedSimpArgs false
namespace Go.Proofs.YtgdcefohfebleaaDoor.V
open Go Go.Proofs

theorem matOk_le {a : Mat} (h : matOk a = true) : (a.field = 8 ∨ a.field = 16) ∧ 0 ≤ a.rows ∧ a.rows ≤ 32 ∧ 0 ≤ a.cols ∧ a.cols ≤ 32 ∧ (a.cell.length : Int) = a.rows * a.cols ∧ anyF (fun i => badM a.field (a.cell.getD i 0)) a.cell.length = false := by
  unfold matOk at h
  by_cases hc : ((a.field ≠ 8 ∧ a.field ≠ 16) ∨ (if a.cols < a.rows then a.cols else a.rows) < 0 ∨ 32 < (if a.rows < a.cols then a.cols else a.rows) ∨ (a.cell.length : Int) ≠ a.rows * a.cols)
  · rw [if_pos hc] at h; cases h
  · rw [if_neg hc] at h
    simp only [not_or, Decidable.not_not] at hc
    obtain ⟨h1, h2, h3, h4⟩ := hc
    refine ⟨by omega, ?_, ?_, ?_, ?_, h4, by simpa using h⟩ <;> (split at h2 <;> split at h3 <;> omega)
/-- column i takes the first k elements of a row; r the length of the rows written to -/
def trI (r : Nat) (row : List Int) (i : Nat) : Nat → List Int → List Int
  | 0, l => l
  | k + 1, l => (trI r row i k l).set (k * r + i) (row.getD k 0)
def trO (r c : Nat) (cell : List Int) : Nat → List Int → List Int
  | 0, l => l
  | i + 1, l => trI r (rowAt cell i c) i c (trO r c cell i l)
def trF (a : Mat) : Mat := if matOk a = true then ⟨a.field, a.cols, a.rows, trO a.rows.toNat a.cols.toNat a.cell a.rows.toNat (List.replicate (a.cols * a.rows).toNat 0)⟩ else ⟨0, 0, 0, []⟩
def trE (a : Mat) : Int := if matOk a = true then 0 else 1
theorem trI_len (r : Nat) (row : List Int) (i : Nat) : ∀ k l, (trI r row i k l).length = l.length
  | 0, l => rfl
  | k + 1, l => by simp only [trI, List.length_set, trI_len r row i k l]
theorem trO_len (r c : Nat) (cell : List Int) : ∀ i l, (trO r c cell i l).length = l.length
  | 0, l => rfl
  | i + 1, l => by simp only [trO, trI_len, trO_len r c cell i l]
theorem rowAt_len {l : List Int} {i c : Nat} (h : i * c + c ≤ l.length) : (rowAt l i c).length = c := by
  unfold rowAt; rw [List.length_drop, List.length_take]; omega
theorem rb {i n c : Nat} (h : i < n) : ((i : Int) + 1) * (c : Int) ≤ ((n * c : Nat) : Int) := by
  have := Nat.mul_le_mul_right c (show i + 1 ≤ n from h)
  rw [show ((i : Int) + 1) * (c : Int) = (((i + 1) * c : Nat) : Int) by rw [Int.natCast_mul]; rfl]
  omega
theorem rb3 {i n c : Nat} (h : i < n) : i * c + c ≤ n * c := by
  have := Nat.mul_le_mul_right c (show i + 1 ≤ n from h)
  rw [Nat.add_mul, Nat.one_mul] at this; exact this
theorem rb2 {i n c j : Nat} (h : i < n) (hj : j < c) : i * c + j < n * c := by have := rb3 (c := c) h; omega
structure XI where
  i : Nat
structure XK where
  k : Nat
section
variable (r c : Nat) (cell l0 : List Int)
def trL5 : LAnn := { ι := XI, nils := [], vars := fun x => [(21, .d (.v (.int .i64 (x.i : Int))))], mem := fun x => [(18, .row 3 (.ints .i64 (trO r c cell x.i l0)))], inv := fun x => x.i ≤ r, init := ⟨0⟩, meas := fun x => r - x.i }
variable (i : Nat)
def trL8 : LAnn := { ι := XK, nils := [], vars := fun x => [(28, .d (.v (.int .i64 (x.k : Int))))], mem := fun x => [(18, .row 3 (.ints .i64 (trI r (rowAt cell i c) i x.k (trO r c cell i l0))))], inv := fun x => x.k ≤ c, init := ⟨0⟩, meas := fun x => c - x.k }
end
theorem matNil : Le (.agg [.d (.v (.int .i64 0)), .d (.v (.int .i64 0)), .d (.v (.int .i64 0)), .d (.v (.slice none 0 0))]) (matAV ⟨0, 0, 0, []⟩) :=
  Le.agg (Les.cons (Le.refl _) (Les.cons (Le.refl _) (Les.cons (Le.refl _) (Les.cons (DLe.nil_ints _).le (Les.refl _)))))
def trC : List AV → (MM → AV → Prop) → Prop
  | [.agg [.d (.v (.int .i64 f)), .d (.v (.int .i64 r)), .d (.v (.int .i64 c)), .d (.ints .i64 l)]], K =>
    (matOk ⟨f, r, c, l⟩ = true → ∀ w n, w = (trF ⟨f, r, c, l⟩).cell → n = w.length → K [(0, .row 3 (.ints .i64 w))] (.tup [.agg [.d (.v (.int .i64 f)), .d (.v (.int .i64 c)), .d (.v (.int .i64 r)), .own 0 n], .d (.v (.int .i64 0))])) ∧
    (matOk ⟨f, r, c, l⟩ = false → K [] (.tup [.agg [.d (.v (.int .i64 0)), .d (.v (.int .i64 0)), .d (.v (.int .i64 0)), .d (.ints .i64 [])], .d (.v (.int .i64 1))]))
  | _, _ => False
attribute [local irreducible] trI trO
set_option maxRecDepth 20000 in
theorem tr_ok : Meets P0 gl0 95 (.data trC) := fun args K h => by
  unfold trC at h
  split at h
  · rename_i f r c l
    have hbad : matOk ⟨f, r, c, l⟩ = false → exitG K [(0, .gone)] (.tup [.agg [.d (.v (.int .i64 0)), .d (.v (.int .i64 0)), .d (.v (.int .i64 0)), .d (.v (.slice none 0 0))], .d (.v (.int .i64 1))]) := fun hf => ⟨_, _, fun k => lkM_gone k 0, Le.tup (Les.cons matNil (Les.refl _)), h.2 hf⟩
    have hgood : ∀ w n, matOk ⟨f, r, c, l⟩ = true → w = trO r.toNat c.toNat l r.toNat (List.replicate (c * r).toNat 0) → n = w.length → exitG K [(0, .row 3 (.ints .i64 w))] (.tup [.agg [.d (.v (.int .i64 f)), .d (.v (.int .i64 c)), .d (.v (.int .i64 r)), .own 0 n], .d (.v (.int .i64 0))]) := fun w n hf e4 e5 => exitG_self (h.1 hf w n (by rw [e4]; unfold trF; rw [hf]; rfl) e5)
    refine Does.ends ?_
    refine does_mk noEq_ok spsM3_ok Tryd.func95 {} (fun i g s h => by cases h) [18] ?_
    repeat' (first | refine And.intro ?_ ?_ | intro _ | (refine brK_id ?_; first | with_reducible refine brK_t ?_ | with_reducible refine brK_f ?_ | with_reducible refine brK_dec ?_ ?_ | with_reducible refine brK_ndec ?_ ?_ | refine brK_of ?_ ?_) | exact True.intro | refine hbad ?_ | refine hgood _ _ ?_ ?_ ?_ | refine ExL.intro (id := 5) (trL5 r.toNat c.toNat l (List.replicate (c * r).toNat 0)) ?_ | refine ExL.intro (id := 8) (trL8 r.toNat c.toNat l (List.replicate (c * r).toNat 0) (by assumption : XI).i) ?_ | refine Exists.intro (XK.mk ((by assumption : XK).k + 1)) ?_ | refine Exists.intro (XI.mk ((by assumption : XI).i + 1)) ?_ | fail)
    all_goals (try (refine ⟨?_⟩))
    all_goals (try with_reducible rfl)
    all_goals (try (simp_all; done))
    all_goals (have hok : matOk ⟨f, r, c, l⟩ = true := by simp_all)
    all_goals (obtain ⟨hf, hr0, hr1, hc0, hc1, hlen, _⟩ := matOk_le hok)
    all_goals (simp only at hf hr0 hr1 hc0 hc1 hlen)
    all_goals (obtain ⟨R, rfl⟩ := Int.eq_ofNat_of_zero_le hr0)
    all_goals (obtain ⟨C, rfl⟩ := Int.eq_ofNat_of_zero_le hc0)
    all_goals (have hlen2 : l.length = R * C := by rw [← Int.natCast_mul] at hlen; omega)
    all_goals (have hcr : ((C : Int) * (R : Int)).toNat = C * R := by rw [← Int.natCast_mul]; rfl)
    all_goals (try simp only [Int.toNat_natCast, DV.len] at *)
    all_goals (try rw [hcr])
    all_goals (try (have hxi : (by assumption : XI).i < R := by omega))
    all_goals (try (have hrl := rowAt_len (l := l) (i := (by assumption : XI).i) (c := C) (by rw [hlen2]; exact rb3 hxi)))
    all_goals (try omega)
    all_goals (try (unfold in64; omega))
    all_goals (try (exact ⟨by omega, by omega, by omega, by omega, by rw [hlen2]; exact rb hxi⟩))
    all_goals (try (exact ⟨by omega, by omega, by omega, by omega, rb (by omega)⟩))
    all_goals (try (simp only [trI_len, trO_len, List.length_replicate]; exact rb2 (by omega) hxi))
    all_goals (try (simp only [trI_len, trO_len, List.length_replicate]; done))
    all_goals (try (simp only [trO, trI]; done))
    all_goals (try (exact ⟨by show _ + 1 ≤ C; omega, by show C - (_ + 1) < C - _; omega⟩))
    all_goals (try (simp only [trO]; rw [show (by assumption : XK).k = C by omega]; done))
    all_goals (try (rw [show (by assumption : XI).i = R by omega]; done))
    · have hk : (by assumption : XK).k = C := by omega
      simp only [trO]
      rw [hk]
    · have hk : (by assumption : XI).i = R := by omega
      rw [hk]
  · exact h.elim
end Go.Proofs.YtgdcefohfebleaaDoor.V
