/-
  Proved here, step by step for the theorem UW: slices.Clone of stripes; health.Order (fewer than 20 stripes); the law's list; equality of stripes; the law's list; sanity of the laws on health; sanity of the laws on health; the law HealthWorst returns true; from a walk to the row's statement: what holds of every law of this seat; the statement HealthWorst: for every list of stripes the law returns true
  Conditions: those that stand in each theorem.
-/
import Derived.Laws.StructEq
import Derived.Below
import Derived.ChangeSame
import Derived.Handed
import Derived.Deep.Slices
import Derived.OpenShut
import Derived.ProofKit
import Derived.LaidMore
import Derived.SizedLaws
import Derived.WideKeyArgs
import Derived.ChangeCalls
import Derived.Test.YtgdcefohfebleaaDoorRows
import Derived.Stop.Joined
import Derived.Deep.Strs
import Derived.Test.YtgdcefohfebleaaDoorCards
import Derived.Test.YtgdcefohfebleaaDoorTie
import Derived.Test.YtgdcefohfebleaaDoorM15
/- slices.Clone of stripes; health.Order (fewer than 20 stripes); the law's list -/
set_option linter.unusedVariables false
set_option linter.unusedSimpArgs false
namespace Go.Proofs.YtgdcefohfebleaaDoor.V
open Go Go.Proofs

def clHC : List AV → (MM → AV → Prop) → Prop
  | [.d (.gen 4 n el)], K => ∃ l, Ob (Hls n el l ∧ n ≤ 1000000) ∧ ∀ l' m, l' = l → m = l.length → K [(0, .row 60 (hlDV l'))] (.own 0 m)
  | _, _ => False
theorem clH_ok : Meets P0 gl0 53 (.data clHC) := by
  intro args K h0
  unfold clHC at h0
  split at h0
  · rename_i n el
    obtain ⟨l, ⟨hls, hl⟩, hK⟩ := h0
    obtain rfl : n = l.length := hls.1
    refine Does.conv (args' := [.d (hlDV l)]) (Les.cons hls.le.le (Les.refl _)) (Does.cut (Does.cutG ?_))
    have hN : ∀ mm, l.length = 0 → (∀ k, lkM k mm = .gone) → ∃ mm', (∀ k, CutB (lkM k mm) (lkM k mm')) ∧ (K mm' (.d (.v (.slice none 0 0))) ∨ (∃ e r1 r0, mm' = [(0, ABlk.row e r1)] ∧ Pre r0 r1 ∧ K [(0, .row e r0)] (.d (.v (.slice none 0 0)))) ∨ (∃ e r0, (∀ k, lkM k mm' = .gone) ∧ AV.d (.v (.slice none 0 0)) = .d (.v (.slice none 0 0)) ∧ DV.isSl r0 = true ∧ DV.len r0 = 0 ∧ K [(0, .row e r0)] (.own 0 0))) := fun mm h0 hm =>
      ⟨mm, fun k => .inl rfl, .inr (.inr ⟨60, hlDV l, hm, rfl, rfl, h0, hK l 0 rfl h0.symm⟩)⟩
    have hS : ∀ (n : Nat) (el : Nat → Nat → DV), Hls n el l → ∃ mm', (∀ k, CutB (lkM k [(0, .row 60 (.gen 4 n el))]) (lkM k mm')) ∧ (K mm' (.own 0 n) ∨ (∃ e r1 r0, mm' = [(0, ABlk.row e r1)] ∧ Pre r0 r1 ∧ K [(0, .row e r0)] (.own 0 n)) ∨ (∃ e r0, (∀ k, lkM k mm' = .gone) ∧ AV.own 0 n = .d (.v (.slice none 0 0)) ∧ DV.isSl r0 = true ∧ DV.len r0 = 0 ∧ K [(0, .row e r0)] (.own 0 0))) := fun n el h =>
      ⟨_, row_cut h 0, .inl (hK l _ rfl h.1)⟩
    refine does_mk noEq_ok (SpsOk.nil gl0) Tryd.func53 {} (fun i g s h => by cases h) [5] ?_
    repeat' (first | refine And.intro ?_ ?_ | intro _ | (refine brK_id ?_; first | with_reducible refine brK_t ?_ | with_reducible refine brK_f ?_ | with_reducible refine brK_dec ?_ ?_ | with_reducible refine brK_ndec ?_ ?_ | refine brK_of ?_ ?_) | exact True.intro | (refine hN _ ?_ ?_) | (refine hS _ _ ?_) | fail)
    all_goals (try (refine ⟨?_⟩))
    all_goals (try with_reducible rfl)
    all_goals (try (exact (by assumption : _ = true → _) (by assumption)))
    all_goals (try (exact (lkM_gone _ 0).symm))
    all_goals (try rfl)
    all_goals (try (simp only [DV.len, hlDV, maxBytes, List.length_nil, Nat.zero_add]; omega))
    all_goals (try (simp only [List.length_nil]; omega))
  · exact h0.elim
/-- the stripes of l with units that are not good, the most urgent ones first (fewer than 20) -/
def orderF (l : List Hl) : List Hl := insF 0 (l.filter keepH).length (l.filter keepH)
def orderC : List AV → (MM → AV → Prop) → Prop
  | [.d (.gen 4 n el)], K => ∃ l, Ob (Hls n el l ∧ n < 20) ∧ ∀ l' m, l' = orderF l → m = l'.length → K [(0, .row 60 (hlDV l'))] (.own 0 m)
  | _, _ => False
def spsO1 : List (Nat × SpecE) := [(53, .data clHC), (52, .heap delC), (54, .lend C54), (56, .data byC), (55, .heap sort20C)]
theorem spsO1_ok : SpsOk gl0 spsO1 := ((((((SpsOk.nil gl0).cons ⟨Tryd.f55, Tryd.func55, by decide, rfl⟩ sort20_ok).cons ⟨Tryd.f56, Tryd.func56, by decide, rfl⟩ by_ok).cons ⟨Tryd.f54, Tryd.func54, by decide, rfl⟩ ok54).cons ⟨Tryd.f52, Tryd.func52, by decide, rfl⟩ del_ok).cons ⟨Tryd.f53, Tryd.func53, by decide, rfl⟩ clH_ok)
attribute [local irreducible] insF
set_option maxHeartbeats 4000000 in
set_option maxRecDepth 20000 in
theorem order_ok : Meets P0 gl0 28 (.data orderC) := by
  intro args K h0
  unfold orderC at h0
  split at h0
  · rename_i n el
    obtain ⟨l, ⟨hls, hl⟩, hK⟩ := h0
    obtain rfl : n = l.length := hls.1
    refine Does.conv (args' := [.d (hlDV l)]) (Les.cons hls.le.le (Les.refl _)) ?_
    refine does_mk noEq_ok spsO1_ok Tryd.func28 { nk := fun k => bif Nat.beq k 7 then [] else [] } (fun i g s h => by cases h) [4] ?_
    repeat' (first | refine And.intro ?_ ?_ | intro _ | (refine brK_id ?_; first | with_reducible refine brK_t ?_ | with_reducible refine brK_f ?_ | with_reducible refine brK_dec ?_ ?_ | with_reducible refine brK_ndec ?_ ?_ | refine brK_of ?_ ?_) | exact True.intro | (refine hK _ _ ?_ ?_) | (refine del_go (l := l) ?_ ?_ ?_ (fun _ _ _ _ => ?_)) | (refine sort20_go (l := l.filter keepH) ?_ ?_ ?_ (fun _ _ => ?_)) | (refine Exists.intro (α := List Hl) l ?_) | fail)
    all_goals (try (refine ⟨?_⟩))
    all_goals (try with_reducible rfl)
    all_goals (try (exact ⟨Hls.self l, by omega⟩))
    all_goals (have hfl := List.length_filter_le keepH l)
    all_goals (subst_vars)
    all_goals (try rfl)
    all_goals (try omega)
    all_goals (rw [insF_len])
  · exact h0.elim
end Go.Proofs.YtgdcefohfebleaaDoor.V
/- equality of stripes; the law's list; sanity of the laws on health -/
set_option linter.unusedVariables false
set_option linter.unusedSimpArgs false
namespace Go.Proofs.YtgdcefohfebleaaDoor.V
open Go Go.Proofs

theorem u3 : P0.underlying 3 = some (.int .i64) := by kernel_rfl
theorem u60 : P0.underlying 60 = some (.struct (P0.fieldsOf 60)) := by kernel_rfl
theorem u58 : P0.underlying 58 = some (.struct (P0.fieldsOf 58)) := by kernel_rfl
theorem f58 : (P0.fieldsOf 58).toList.map (fun f => (f.name == "_", f.type, f.offset)) = [(false, 3, 0), (false, 3, 1)] := by kernel_rfl
theorem f60 : (P0.fieldsOf 60).toList.map (fun f => (f.name == "_", f.type, f.offset)) = [(false, 58, 0), (false, 3, 2), (false, 3, 3)] := by kernel_rfl
theorem hl_kinds {xs : List Value} (h : kinds [.int .i64 0, .int .i64 0, .int .i64 0, .int .i64 0] xs) : ∃ a b c d, xs = [.int .i64 a, .int .i64 b, .int .i64 c, .int .i64 d] := by
  have step : ∀ {z r : List Value}, kinds (.int .i64 0 :: z) r → ∃ a r', r = .int .i64 a :: r' ∧ kinds z r' := by
    intro z r h
    cases r with
    | nil => exact h.elim
    | cons v r => cases v <;> first | exact h.elim | (obtain ⟨rfl, h⟩ := h; exact ⟨_, _, rfl, h⟩)
  obtain ⟨a, r1, rfl, h1⟩ := step h
  obtain ⟨b, r2, rfl, h2⟩ := step h1
  obtain ⟨c, r3, rfl, h3⟩ := step h2
  obtain ⟨d, r4, rfl, h4⟩ := step h3
  cases r4 with
  | nil => exact ⟨a, b, c, d, rfl⟩
  | cons _ _ => exact h4.elim
theorem i58 : (P0.info? 58).map (·.size) = some 2 := by kernel_rfl
theorem part3 {xs : Array Value} {off : Nat} {v : Value} (h : xs[off]? = some v) (w : World) : (part 3 xs off).run P0 w = .ok v w := by
  simp [part, isAgg, run_underlying u3, h]
theorem part58 {xs : Array Value} {off : Nat} (w : World) : (part 58 xs off).run P0 w = .ok (.agg (xs.extract off (off + 2))) w := by
  cases hi : P0.info? 58 with
  | none => have := i58; rw [hi] at this; cases this
  | some i =>
    have h2 : i.size = 2 := by have := i58; rw [hi] at this; simpa using this
    simp [part, isAgg, run_underlying u58, sizeOf, typeInfo, hi, h2]
theorem eqf {d : Nat} {xs ys : Array Value} {f : Field} {fs : List Field} {a b : Value} {r : Bool} {w : World} (hn : (f.name == "_") = false) (ha : (part f.type xs f.offset).run P0 w = .ok a w) (hb : (part f.type ys f.offset).run P0 w = .ok b w)
    (hr : (Op.equalIn d f.type a b).run P0 w = .ok r w) {q : Bool} (hq : (Op.eqFields d xs ys fs).run P0 w = .ok q w) : (Op.eqFields d xs ys (f :: fs)).run P0 w = .ok (r && q) w := by
  have hn' : f.name ≠ "_" := by simpa using hn
  simp only [Op.eqFields, if_pos hn', Sem.run_bind, ha, hb, hr, Result.andThen_ok, Sem.run_ite, Sem.run_pure]
  cases r
  · rfl
  · simpa using hq
theorem eq58 (d : Nat) (a b a' b' : Int) (w : World) : (Op.equalIn (d + 2) 58 (.agg #[.int .i64 a, .int .i64 b]) (.agg #[.int .i64 a', .int .i64 b'])).run P0 w = .ok (a == a' && (b == b' && true)) w := by
  rw [run_equalIn_struct w (d + 1) 58 _ _ u58 (by kernel_rfl)]
  obtain ⟨f0, f1, hf⟩ : ∃ f0 f1, (P0.fieldsOf 58).toList = [f0, f1] := by
    have h := f58
    match hq : (P0.fieldsOf 58).toList with
    | [f0, f1] => exact ⟨f0, f1, rfl⟩
    | [] => have hl := congrArg List.length h; rw [hq] at hl; simp at hl
    | [_] => have hl := congrArg List.length h; rw [hq] at hl; simp at hl
    | _ :: _ :: _ :: _ => have hl := congrArg List.length h; rw [hq] at hl; simp at hl
  have h := f58
  rw [hf] at h ⊢
  simp only [List.map_cons, List.map_nil, List.cons.injEq, Prod.mk.injEq, and_true] at h
  obtain ⟨⟨n0, t0, o0⟩, n1, t1, o1⟩ := h
  refine eqf n0 (a := .int .i64 a) (b := .int .i64 a') (by rw [t0, o0]; exact part3 rfl w) (by rw [t0, o0]; exact part3 rfl w) (by rw [t0]; exact run_equalIn_int w d 3 .i64 .i64 a a' u3) ?_
  refine eqf n1 (a := .int .i64 b) (b := .int .i64 b') (by rw [t1, o1]; exact part3 rfl w) (by rw [t1, o1]; exact part3 rfl w) (by rw [t1]; exact run_equalIn_int w d 3 .i64 .i64 b b' u3) ?_
  simp [Op.eqFields]
set_option maxRecDepth 100000 in
theorem eq60 : EqAgg P0 60 [.int .i64 0, .int .i64 0, .int .i64 0, .int .i64 0] where
  gd := by kernel_rfl
  run := fun w xs ys hx hy => by
    obtain ⟨a, b, c, d, rfl⟩ := hl_kinds hx
    obtain ⟨a', b', c', d', rfl⟩ := hl_kinds hy
    simp only [Op.equal, Op.maxDepth]
    rw [show (10000 : Nat) = 9999 + 1 from rfl, run_equalIn_struct w 9999 60 _ _ u60 (by kernel_rfl)]
    obtain ⟨f0, f1, f2, hf⟩ : ∃ f0 f1 f2, (P0.fieldsOf 60).toList = [f0, f1, f2] := by
      have h := f60
      match hq : (P0.fieldsOf 60).toList with
      | [f0, f1, f2] => exact ⟨f0, f1, f2, rfl⟩
      | [] => have hl := congrArg List.length h; rw [hq] at hl; simp at hl
      | [_] => have hl := congrArg List.length h; rw [hq] at hl; simp at hl
      | [_, _] => have hl := congrArg List.length h; rw [hq] at hl; simp at hl
      | _ :: _ :: _ :: _ :: _ => have hl := congrArg List.length h; rw [hq] at hl; simp at hl
    have h := f60
    rw [hf] at h ⊢
    simp only [List.map_cons, List.map_nil, List.cons.injEq, Prod.mk.injEq, and_true] at h
    obtain ⟨⟨n0, t0, o0⟩, ⟨n1, t1, o1⟩, n2, t2, o2⟩ := h
    have := eqf n0 (d := 9999) (xs := #[.int .i64 a, .int .i64 b, .int .i64 c, .int .i64 d]) (ys := #[.int .i64 a', .int .i64 b', .int .i64 c', .int .i64 d']) (by rw [t0, o0]; exact part58 w) (by rw [t0, o0]; exact part58 w) (by rw [t0]; exact eq58 9997 a b a' b' w)
      (eqf n1 (a := .int .i64 c) (b := .int .i64 c') (by rw [t1, o1]; exact part3 rfl w) (by rw [t1, o1]; exact part3 rfl w) (by rw [t1]; exact run_equalIn_int w 9998 3 .i64 .i64 c c' u3)
        (eqf (fs := []) n2 (a := .int .i64 d) (b := .int .i64 d') (by rw [t2, o2]; exact part3 rfl w) (by rw [t2, o2]; exact part3 rfl w) (by rw [t2]; exact run_equalIn_int w 9998 3 .i64 .i64 d d' u3) (q := true) (by simp [Op.eqFields])))
    refine this.trans ?_
    congr 1
    simp only [eqv, Bool.and_true]
    by_cases h1 : a = a' <;> by_cases h2 : b = b' <;> by_cases h3 : c = c' <;> by_cases h4 : d = d' <;> simp [h1, h2, h3, h4]
def eqH : TypeId → Bool := fun t => Nat.beq t 60
theorem eqH_ok : EqtOk eqH := fun t ti h hq => by
  obtain rfl : t = 60 := Nat.eq_of_beq_eq_true h
  have : tbOf tbl 60 = some ⟨1, 4, true, [.int .i64 0, .int .i64 0, .int .i64 0, .int .i64 0], 32, [(0, 2, true), (2, 1, false), (3, 1, false)], 0⟩ := by kernel_rfl
  rw [this] at hq
  cases hq
  exact eq60
/-- the law's list: are two lists of stripes equal -/
def eqHl (a b : Hl) : Bool := decide (a.row = b.row) && decide (a.group = b.group) && decide (a.left = b.left) && decide (a.bad = b.bad)
def listC : List AV → (AV → Prop) → Prop
  | [.d (.gen 4 n el), .d (.gen 4 m el')], K => ∃ a b, Ob (Hls n el a ∧ Hls m el' b ∧ n ≤ 1000000) ∧ ∀ r : Bool, (r = true ↔ (a.length = b.length ∧ ∀ i, i < a.length → a.getD i Hl.none = b.getD i Hl.none)) → K (.d (.v (.bool r)))
  | _, _ => False
def liAn (a b : List Hl) : An := { plan := fun k => bif Nat.beq k 6 then some (.take 0 (.take 1 (.take 2 (.take 3 (.take 4 (.take 5 (.take 6 (.take 7 (.take 8 (.done)))))))))) else none, ann := fun k => bif Nat.beq k 4 then some { ι := BI, nils := [], vars := fun y => [(5, .d (.v (.int .i64 (y.i : Int))))], mem := fun _ => [], inv := fun y => y.i ≤ a.length ∧ a.length = b.length ∧ ∀ j, j < y.i → a.getD j Hl.none = b.getD j Hl.none, init := ⟨0⟩, meas := fun y => a.length - y.i } else none }
theorem list_ok : Meets P0 gl0 50 (.lend listC) := by
  intro args K h0
  unfold listC at h0
  split at h0
  · rename_i n el m el'
    obtain ⟨a, b, ⟨ha, hb, hl⟩, hK⟩ := h0
    obtain rfl : n = a.length := ha.1
    obtain rfl : m = b.length := hb.1
    refine Does.conv (args' := [.d (hlDV a), .d (hlDV b)]) (Les.cons ha.le.le (Les.cons hb.le.le (Les.refl _))) ?_
    have hK1 : (a.length = b.length ∧ ∀ i, i < a.length → a.getD i Hl.none = b.getD i Hl.none) → K (.d (.v (.bool true))) := fun h => hK true ⟨fun _ => h, fun _ => rfl⟩
    have hK2 : ¬ (a.length = b.length ∧ ∀ i, i < a.length → a.getD i Hl.none = b.getD i Hl.none) → K (.d (.v (.bool false))) := fun h => hK false ⟨(fun q => nomatch q), fun q => absurd q h⟩
    refine does_mk eqH_ok (SpsOk.nil gl0) Tryd.func50 (liAn a b) (fun i g s h => by cases h) [] ?_
    repeat' (first | refine And.intro ?_ ?_ | intro _ | (refine brK_id ?_; first | with_reducible refine brK_t ?_ | with_reducible refine brK_f ?_ | with_reducible refine brK_dec ?_ ?_ | with_reducible refine brK_ndec ?_ ?_ | refine brK_of ?_ ?_) | exact True.intro | (refine hK1 ?_) | (refine hK2 ?_) | refine Exists.intro (BI.mk ((by assumption : BI).i + 1)) ?_ | fail)
    all_goals (try (refine ⟨?_⟩))
    all_goals (try with_reducible rfl)
    all_goals (try (exact ⟨by kernel_rfl, by kernel_rfl⟩))
    all_goals (try (exact ⟨rfl, rfl⟩))
    all_goals (try (exact ⟨Nat.zero_le _, by omega, fun j hj => absurd hj (Nat.not_lt_zero _)⟩))
    all_goals (try simp only [Int.toNat_natCast] at *)
    all_goals (try omega)
    all_goals (try (unfold in64; omega))
    · rename_i hb hq h3
      have hlt : (by assumption : BI).i < a.length := by omega
      have := h3.2 _ hlt
      have hbt := hb.2 ⟨by rw [this], by rw [this], by rw [this], by rw [this], trivial⟩
      rw [hbt] at hq; cases hq
    · have hinv := (by assumption : _ ∧ a.length = b.length ∧ ∀ j, j < _ → a.getD j Hl.none = b.getD j Hl.none)
      rename_i hb hq
      have hbt := hb.1 (by simpa using hq)
      refine ⟨⟨by omega, hinv.2.1, fun j hj => ?_⟩, by omega⟩
      rcases Nat.lt_or_ge j (by assumption : BI).i with q | q
      · exact hinv.2.2 j q
      · obtain rfl : j = (by assumption : BI).i := by omega
        obtain ⟨h1, h2, h3, h4, _⟩ := hbt
        generalize a.getD _ Hl.none = x at *
        generalize b.getD _ Hl.none = y at *
        cases x; cases y
        simp only [Hl.cell] at h1 h2 h3 h4
        subst h1 h2 h3 h4; rfl
    · have hinv := (by assumption : _ ∧ a.length = b.length ∧ ∀ j, j < _ → a.getD j Hl.none = b.getD j Hl.none)
      exact hinv.2.2 _ (by omega)
  · exact h0.elim
end Go.Proofs.YtgdcefohfebleaaDoor.V
/- sanity of the laws on health -/
set_option linter.unusedVariables false
set_option linter.unusedSimpArgs false
namespace Go.Proofs.YtgdcefohfebleaaDoor.V
open Go Go.Proofs

theorem san1 : hLeftF parCod [1, 1, 1] = 1 := by kernel_rfl
theorem san2 : hLeftF parCod [1, 2, 1] = 0 := by kernel_rfl
theorem san3 : hLeftF parCod [3, 2, 1] = -1 := by kernel_rfl
theorem san4 : orderF [⟨0, 0, 1, 1⟩, ⟨1, 0, 0, 1⟩, ⟨2, 0, -1, 2⟩, ⟨3, 0, 0, 0⟩] = [⟨1, 0, 0, 1⟩, ⟨0, 0, 1, 1⟩, ⟨2, 0, -1, 2⟩] := by kernel_rfl
theorem san6 : fullF parCod [1, 1, 1] = true := by kernel_rfl
theorem san7 : fullF parCod [1, 1] = false := by kernel_rfl
def sanIn : List Hl := [⟨0, 0, 1, 1⟩, ⟨1, 0, 0, 1⟩, ⟨2, 0, -1, 2⟩, ⟨3, 0, 0, 0⟩]
def sanOut : List Hl := [⟨1, 0, 0, 1⟩, ⟨0, 0, 1, 1⟩, ⟨2, 0, -1, 2⟩]
theorem brK_eqt {b : Bool} {A B : Prop} (h : b = true) (hA : A) : brK b A B := ⟨fun _ => hA, fun q => (by rw [h] at q; cases q)⟩
theorem brK_eqf {b : Bool} {A B : Prop} (h : b = false) (hB : B) : brK b A B := ⟨fun q => (by rw [h] at q; cases q), fun _ => hB⟩
/-- health.Worst, of nil too -/
def worstC2 (args : List AV) (K : AV → Prop) : Prop := (args = [.d (.v (.slice none 0 0))] ∧ K (.d (.v (.int .i64 4)))) ∨ worstC args K
theorem worst2_ok : Meets P0 gl0 30 (.lend worstC2) := by
  rintro args K (⟨rfl, h⟩ | h)
  · refine Does.conv (args' := [.d (hlDV [])]) (Les.cons (DLe.nil_gen 4 _).le (Les.refl _)) (worst_ok _ K ?_)
    exact ⟨[], ⟨Hls.self [], by decide⟩, h⟩
  · exact worst_ok args K h
theorem worst_nil {K : AV → Prop} (h : K (.d (.v (.int .i64 4)))) : worstC2 [.d (.v (.slice none 0 0))] K := .inl ⟨rfl, h⟩
theorem order_go {l : List Hl} {n : Nat} {el : Nat → Nat → DV} {K : MM → AV → Prop} (h : Hls n el l ∧ n < 20) (hK : ∀ l' m, l' = orderF l → m = l'.length → K [(0, .row 60 (hlDV l'))] (.own 0 m)) : orderC [.d (.gen 4 n el)] K := ⟨l, ⟨h⟩, hK⟩
theorem list_go {a b : List Hl} {n m : Nat} {el el' : Nat → Nat → DV} {K : AV → Prop} (h : Hls n el a ∧ Hls m el' b ∧ n ≤ 1000000) (hK : ∀ r : Bool, (r = true ↔ (a.length = b.length ∧ ∀ i, i < a.length → a.getD i Hl.none = b.getD i Hl.none)) → K (.d (.v (.bool r)))) : listC [.d (.gen 4 n el), .d (.gen 4 m el')] K := ⟨a, b, ⟨h⟩, hK⟩
theorem san_list {a : List Hl} {r : Bool} (ha : a = orderF sanIn) (hr : r = true ↔ (a.length = sanOut.length ∧ ∀ i, i < a.length → a.getD i Hl.none = sanOut.getD i Hl.none)) : r = true :=
  hr.2 (by rw [ha, show orderF sanIn = sanOut from san4]; exact ⟨rfl, fun _ _ => rfl⟩)
theorem san_len {a : List Hl} (ha : a = orderF sanIn) : a.length ≤ 1000000 := by rw [ha, show orderF sanIn = sanOut from san4]; decide
def sanC : List AV → (AV → Prop) → Prop
  | [], K => K (.d (.v (.bool true)))
  | _, _ => False
def planSan : Plan := .take 0 (.take 1 (.alt 2 (.take 3 (.take 4 (.take 5 (.alt 6 (.alt 7 (.take 8 (.take 9 (.take 10 (.take 11 (.alt 12 (.alt 13 (.take 14 (.take 15 (.take 16 (.take 17 (.alt 18 (.alt 19 (.alt 20 (.alt 21 (.alt 22 (.take 23 (.take 24 (.alt 25 (.take 26 (.take 27 (.take 28 (.take 29 (.take 30 (.alt 31 (.take 32 (.take 33 (.take 34 (.take 35 (.take 36 (.alt 37 (.take 38 (.take 39 (.take 40 (.done)))) (.done))))))) (.done))))))) (.done)))) (.done)) (.done)) (.done)) (.done)) (.done)))))) (.done)) (.done)))))) (.done)) (.done))))) (.done)))
/-- one that only reads, with what it is handed as data for good -/
theorem Meets.lend_data {g : FuncId} {C : List AV → (AV → Prop) → Prop} (h : Meets P0 gl0 g (.lend C)) : Meets P0 gl0 g (.data fun args K => C args fun r => K [] r) := by
  intro args K hC W β ok0 vs h1 h2 h3
  refine Calls.mono (h args _ hC W β ok0 vs h1 h2 h3) fun e w' he => ?_
  cases e with
  | returned v =>
    obtain ⟨mm', β', r, ⟨hs, hk⟩, h4, h5⟩ := he
    exact ⟨[], β', r, hk, h4.drop, scal_rep r hs h5⟩
  | panicked _ => exact he.elim
  | outgrown => exact he.elim
def spsSan : List (Nat × SpecE) := [(48, .data fun args K => parC args fun r => K [] r), (49, .lend atC), (28, .data orderC), (26, .data fun args K => hLeftC args fun r => K [] r), (50, .lend listC), (30, .lend worstC2), (31, .lend fullC)]
theorem spsSan_ok : SpsOk gl0 spsSan := ((((((((SpsOk.nil gl0).cons ⟨Tryd.f31, Tryd.func31, by decide, rfl⟩ full_ok).cons ⟨Tryd.f30, Tryd.func30, by decide, rfl⟩ worst2_ok).cons ⟨Tryd.f50, Tryd.func50, by decide, rfl⟩ list_ok).cons ⟨Tryd.f26, Tryd.func26, by decide, rfl⟩ (Meets.lend_data hLeft_ok)).cons ⟨Tryd.f28, Tryd.func28, by decide, rfl⟩ order_ok).cons ⟨Tryd.f49, Tryd.func49, by decide, rfl⟩ at_ok).cons ⟨Tryd.f48, Tryd.func48, by decide, rfl⟩ par_ok)
attribute [local irreducible] orderC listC worstC2 hLeftF fullF orderF
set_option maxHeartbeats 20000000 in
set_option maxRecDepth 20000 in
theorem san_ok : Meets P0 gl0 25 (.lend sanC) := by
  intro args K h
  unfold sanC at h
  split at h
  · have hK : ∀ b, b = true → K (.d (.v (.bool b))) := fun b hb => by rw [hb]; exact h
    refine does_mk noEq_ok spsSan_ok Tryd.func25 { plan := fun k => bif Nat.beq k 4 then some planSan else none } (fun i g s h => by cases h) [] ?_
    repeat' (first | refine And.intro ?_ ?_ | intro _ | (refine brK_id ?_; first | refine brK_dec (fun _ => ?_) (fun hne => absurd san1 hne) | refine brK_dec (fun _ => ?_) (fun hne => absurd san2 hne) | refine brK_dec (fun _ => ?_) (fun hne => absurd san3 hne)) | (refine brK_id ?_; first | refine brK_eqt san6 ?_ | refine brK_eqf san7 ?_ | refine brK_eqt (san_list (by assumption) (by assumption)) ?_) | (refine brK_id ?_; first | with_reducible refine brK_t ?_ | with_reducible refine brK_f ?_ | with_reducible refine brK_dec ?_ ?_ | with_reducible refine brK_ndec ?_ ?_ | refine brK_of ?_ ?_) | exact True.intro | refine hK _ ?_ | refine worst_nil ?_ | refine order_go (l := sanIn) ?_ (fun _ _ _ _ => ?_) | refine list_go (a := (by assumption : List Hl)) (b := sanOut) ?_ (fun _ _ => ?_) | refine Exists.intro (α := List (List Int)) [[1, 1]] ?_ | fail)
    all_goals (try (refine ⟨?_⟩))
    all_goals (try with_reducible rfl)
    all_goals (try rfl)
    all_goals (try (exact ⟨rfl, rfl⟩))
    all_goals (try (exact ⟨by kernel_rfl, by kernel_rfl⟩))
    all_goals (try (exact Rows.self [[1, 1]]))
    all_goals (try (exact ⟨by decide, by decide, by decide⟩))
    all_goals (try (simp only [List.length_cons, List.length_nil]; omega))
    all_goals (try assumption)
    all_goals (try (rw [(by assumption : _ = orderF sanIn), show orderF sanIn = sanOut from san4]; decide))
    all_goals (try (exact ⟨by decide, by decide⟩))
    all_goals (try (exact absurd rfl (by assumption)))
    · rename_i i j hi hj
      simp only [List.length_cons, List.length_nil] at hi
      obtain rfl | rfl | rfl | rfl : i = 0 ∨ i = 1 ∨ i = 2 ∨ i = 3 := by omega
      all_goals (obtain rfl | rfl | rfl | rfl : j = 0 ∨ j = 1 ∨ j = 2 ∨ j = 3 := by omega)
      all_goals rfl
    · rename_i i j hi hj
      simp only [List.length_cons, List.length_nil] at hi
      obtain rfl | rfl | rfl : i = 0 ∨ i = 1 ∨ i = 2 := by omega
      all_goals (obtain rfl | rfl | rfl | rfl : j = 0 ∨ j = 1 ∨ j = 2 ∨ j = 3 := by omega)
      all_goals rfl
    · exact san_len (by assumption)
    · show (!fullF parCod [1, 1]) = true
      rw [san7]; rfl
  · exact h.elim
end Go.Proofs.YtgdcefohfebleaaDoor.V
/- the law HealthWorst returns true -/
set_option linter.unusedVariables false
set_option linter.unusedSimpArgs false
namespace Go.Proofs.YtgdcefohfebleaaDoor.V
open Go Go.Proofs

def hitF (l : List Hl) (w : Int) : Nat → Bool
  | 0 => decide (l.length = 0) && decide (w = 4)
  | i + 1 => hitF l w i || decide ((l.getD i Hl.none).left = w)
theorem hit_mono (l : List Hl) (w : Int) {i : Nat} (h : hitF l w i = true) : ∀ k, hitF l w (i + k) = true
  | 0 => h
  | k + 1 => by rw [← Nat.add_assoc, hitF, hit_mono l w h k]; rfl
theorem worstN_hit (l : List Hl) : ∀ n, 0 < n → ∃ j, j < n ∧ (l.getD j Hl.none).left = worstN l n
  | n + 1, _ => by
    rw [worstN]
    split
    · exact ⟨n, by omega, rfl⟩
    · rename_i h
      have hn : 0 < n := by
        rcases Nat.eq_zero_or_pos n with h0 | h0
        · exact absurd (.inl h0) h
        · exact h0
      obtain ⟨j, hj, e⟩ := worstN_hit l n hn
      exact ⟨j, by omega, e⟩
theorem worstN_le (l : List Hl) : ∀ n j, j < n → worstN l n ≤ (l.getD j Hl.none).left
  | n + 1, j, hj => by
    rw [worstN]
    split
    · rename_i h
      rcases Nat.lt_or_ge j n with h1 | h1
      · have := worstN_le l n j h1
        rcases h with h | h
        · omega
        · omega
      · obtain rfl : j = n := by omega
        exact Int.le_refl _
    · rename_i h
      rcases Nat.lt_or_ge j n with h1 | h1
      · exact worstN_le l n j h1
      · obtain rfl : j = n := by omega
        omega
theorem hit_all (l : List Hl) : hitF l (worstN l l.length) l.length = true := by
  rcases Nat.eq_zero_or_pos l.length with h | h
  · rw [h]
    show (decide (l.length = 0) && decide ((4 : Int) = 4)) = true
    rw [decide_eq_true h]; rfl
  · obtain ⟨j, hj, e⟩ := worstN_hit l _ h
    have h1 : hitF l (worstN l l.length) (j + 1) = true := by rw [hitF, decide_eq_true e]; simp
    have := hit_mono l _ h1 (l.length - (j + 1))
    rwa [show j + 1 + (l.length - (j + 1)) = l.length by omega] at this
def lawWL (l : List Hl) : LAnn := { ι := BI, nils := [], vars := fun y => [(5, .d (.v (.int .i64 (y.i : Int)))), (4, .d (.v (.bool (hitF l (worstN l l.length) y.i))))], mem := fun _ => [], inv := fun y => y.i ≤ l.length, init := ⟨0⟩, meas := fun y => l.length - y.i }
theorem worst_go {l : List Hl} {n : Nat} {el : Nat → Nat → DV} {K : AV → Prop} (h : Hls n el l ∧ n ≤ big) (hK : K (.d (.v (.int .i64 (worstN l n))))) : worstC2 [.d (.gen 4 n el)] K := .inr ⟨l, ⟨h⟩, hK⟩
def spsW1 : List (Nat × SpecE) := [(30, .lend worstC2), (25, .lend sanC)]
theorem spsW1_ok : SpsOk gl0 spsW1 := (((SpsOk.nil gl0).cons ⟨Tryd.f25, Tryd.func25, by decide, rfl⟩ san_ok).cons ⟨Tryd.f30, Tryd.func30, by decide, rfl⟩ worst2_ok)
attribute [local irreducible] worstC2 worstN hitF
set_option maxRecDepth 20000 in
theorem lawWorst (l : List Hl) (hl : l.length ≤ big) : Does P0 gl0 9 [.d (hlDV l)] [] fun _ r => r = .d (.v (.bool true)) := by
  have hK : ∀ b, b = true → (AV.d (.v (.bool b))) = .d (.v (.bool true)) := fun b hb => by rw [hb]
  refine does_mk noEq_ok spsW1_ok Tryd.func9 {} (fun i g s h => by cases h) [] ?_
  repeat' (first | refine And.intro ?_ ?_ | intro _ | (refine brK_id ?_; first | with_reducible refine brK_t ?_ | with_reducible refine brK_f ?_ | with_reducible refine brK_dec ?_ ?_ | with_reducible refine brK_ndec ?_ ?_ | refine brK_of ?_ ?_) | exact True.intro | refine hK _ ?_ | refine worst_go (l := l) ?_ ?_ | refine ExL.intro (id := 4) (lawWL l) ?_ | refine Exists.intro (BI.mk ((by assumption : BI).i + 1)) ?_ | fail)
  all_goals (try (refine ⟨?_⟩))
  all_goals (try with_reducible rfl)
  all_goals (try simp only [Int.toNat_natCast, big] at *)
  all_goals (try omega)
  all_goals (try (unfold in64; omega))
  all_goals (try (exact ⟨by omega, by omega⟩))
  all_goals (try (have hle := worstN_le l l.length _ (by omega : (by assumption : BI).i < l.length); exact absurd hle (by have hlt := (by assumption : _ < worstN l l.length); exact Int.not_le.2 hlt)))
  all_goals (try (congr 2; rw [hitF, decide_eq_true (by omega)]; rfl; done))
  all_goals (try (congr 2; rw [hitF, decide_eq_false (by omega)]; rfl; done))
  all_goals (try (congr 2; rw [hitF, (by assumption : hitF _ _ _ = _)]; rfl; done))
  all_goals (try (have hi : (by assumption : BI).i = l.length := by omega; rw [hi]; exact hit_all l))
  · rw [hitF, decide_eq_true (show l.length = 0 by omega), Bool.true_and]
  · have hi : (by assumption : BI).i = l.length := by omega
    have := hit_all l
    rw [← hi] at this ⊢
    exact this
  · have hi : (by assumption : BI).i = l.length := by omega
    have := hit_all l
    rw [← hi] at this ⊢
    exact this
end Go.Proofs.YtgdcefohfebleaaDoor.V
/- from a walk to the row's statement: what holds of every law of this seat -/
set_option linter.unusedVariables false
set_option linter.unusedSimpArgs false
namespace Go.Proofs.YtgdcefohfebleaaDoor.V
open Go Go.Proofs Go.RowKit Go.WideShapes Go.ChangeShapes Go.Deep

section
variable {H : Type} {enc : TypeId × Value → H} {P : Program}
theorem post_of_below {f : Func} {s : ChangeSpec} {apart fresh handsOn again : Bool} {W W' : World} {args : Array Value} {v : Value} {ds gs : List (DataW H)} {before pa pv : List MemPlace}
    (hW : DataW.Whole enc P f.params.toList s.vars apart W args.toList ds gs before)
    (hres : ∀ (b : Nat) (sp : Nat → Bool) (hd : Bool), DataW.TrodAll enc P W' b sp hd f.resultTypes.toList (v.resultList f.resultTypes.size) (s.fn H (ds ++ gs)).results [])
    (hargs : ∀ sp : Nat → Bool, (∀ p ∈ before, sp p.block = true) → DataW.TrodAll enc P W' 0 sp true f.params.toList args.toList (s.fn H (ds ++ gs)).args pa)
    (hvars : ∀ sp : Nat → Bool, (∀ p ∈ before, sp p.block = true) → DataW.TrodVars enc P W' sp s.vars (s.fn H (ds ++ gs)).vars pv)
    (hps : before = pa ++ pv) (hb : Below W.heap.size W W')
    (hok : ∀ (j : Nat) (t : TypeId) (r : Value), f.resultTypes[j]? = some t → (v.resultList f.resultTypes.size)[j]? = some r → Value.okWide P W' .any 0 t r) :
    s.post enc P f apart fresh handsOn again W args v W' := by
  have hlt : ∀ p ∈ before, p.block < W.heap.size := fun p hp => hW.lt p hp
  have hold : ∀ p ∈ before, (fun b => decide (b < W.heap.size)) p.block = true := fun p hp => by simpa using hlt p hp
  refine ⟨ds, gs, before, [], pa, pv, hW, hres _ _ _, hargs _ hold, hvars _ hold, World.keptBut_mono (fun p hp => ⟨hp, ?_⟩) (hb.frame (· ∈ before)), fun _ => ?_⟩
  · rw [hps, List.mem_append] at hp
    exact Or.inr hp
  · obtain ⟨_, _, _, _, _, hz, hn⟩ := hW
    refine ⟨hok, _, _, ([] ++ pa) ++ pv, ⟨[] ++ pa, pv, trodAll_append (hargs _ (fun _ _ => rfl)) (hres _ _ _), hvars _ (fun _ _ => rfl), rfl, ?_, ?_⟩, ?_⟩
    · intro b off hp
      have hin : MemPlace.cell b off ∈ before := by rw [hps]; simpa using hp
      rw [hb.frozen (hlt _ hin)]
      exact hz b off hin
    · intro ha
      have := hn ha
      rw [hps] at this
      simpa using this
    · intro p hp _
      rw [hps]
      simpa using hp
end

def laid1 : List (String × DataW Unit) := [("solvent/field.fields", Go.Proofs.YtgdcefohfebleaaDoor.Rows.laid_solvent_field_fields)]
theorem own0 : ownKnob Tryd.prog.godebug = none := by kernel_rfl
theorem gFields : Tryd.prog.globalNamed "solvent/field.fields" = some 0 := by kernel_rfl
theorem tFields : (Tryd.prog.globals[0]?).map (·.type) = some 156 := by kernel_rfl
theorem laidOut0 : laidOutB Tryd.prog = true := by kernel_rfl
theorem c3 : Tryd.prog.cellsOf 3 = 1 := by kernel_rfl
theorem c155 : Tryd.prog.cellsOf 155 = 2 := by kernel_rfl
theorem c156 : Tryd.prog.cellsOf 156 = 4 := by kernel_rfl
set_option maxRecDepth 100000 in
theorem door_met (os : Os) (args : Array Value) : laidMetH Tryd.prog laid1 ((World.doorLaid Tryd.prog 400 os).forCall (fun _ _ => 0) ⟨#[], args, []⟩).memory :=
  laidMetH_of_parts3 (fuel := 8) (laidMet_of_run' 8 (by kernel_rfl) (by kernel_rfl)) (by kernel_rfl) (by kernel_rfl)

set_option maxRecDepth 100000 in
theorem field_cells {W : World} (h : laidMetH P0 laid1 W) : ∀ j, j < 4 → W.cell? ((⟨0, 0, none⟩ : Addr).add j) = some (.int .i64 ([8, 285, 16, 69643].getD j 0)) := by
  rw [MakeChecks.laidMetH_plain _ _ _ (by kernel_rfl)] at h
  obtain ⟨ps, ⟨g0, t0, cs0, f0, p0, q0, hg0, ht0, hv0, hd0, _, _⟩, _, _⟩ := h
  obtain rfl := Option.some.inj (gFields.symm.trans hg0)
  obtain rfl := Option.some.inj (tFields.symm.trans ht0)
  obtain ⟨xs, m1, rfl, hx1, hlen, hn, hel⟩ := DataW.trod_array Tryd.underlying156 hd0
  have hcell := World.var?_cell hg0 hv0
  obtain ⟨cl⟩ := cs0
  rw [c156] at hlen
  obtain ⟨a, b, c, d, rfl⟩ : ∃ a b c d, cl = [a, b, c, d] := by
    match cl, hlen with
    | [a, b, c, d], _ => exact ⟨a, b, c, d, rfl⟩
  obtain ⟨x0, x1, rfl⟩ : ∃ x0 x1, xs = [x0, x1] := by
    match xs, hn with
    | [x0, x1], _ => exact ⟨x0, x1, rfl⟩
  have h0 := hel 0 (by decide)
  have h1 := hel 1 (by decide)
  rw [c155] at h0 h1
  simp at h0 h1
  obtain ⟨y0, y1, n, rfl, _, e0, e1⟩ := trod_struct2 Tryd.underlying155 h0
  obtain ⟨z0, z1, n', rfl, _, e2, e3⟩ := trod_struct2 Tryd.underlying155 h1
  rw [c3] at e0 e1 e2 e3
  simp at e0 e1 e2 e3
  obtain ⟨k0, q0, rfl, _⟩ := DataW.trod_int Tryd.underlying3 e0
  obtain ⟨k1, q1, rfl, _⟩ := DataW.trod_int Tryd.underlying3 e1
  obtain ⟨k2, q2, rfl, _⟩ := DataW.trod_int Tryd.underlying3 e2
  obtain ⟨k3, q3, rfl, _⟩ := DataW.trod_int Tryd.underlying3 e3
  simp [Go.Proofs.YtgdcefohfebleaaDoor.Rows.laid_solvent_field_fields] at hx1
  obtain ⟨⟨⟨rfl, rfl⟩, rfl, rfl⟩, _⟩ := hx1
  simp only [List.cons.injEq, and_true] at q0 q1 q2 q3
  subst q0; subst q1; subst q2; subst q3
  intro j hj
  have := hcell j
  match j, hj with
  | 0, _ => simpa [Addr.add] using this
  | 1, _ => simpa [Addr.add] using this
  | 2, _ => simpa [Addr.add] using this
  | 3, _ => simpa [Addr.add] using this

/-- the value is this, whatever holds of the blocks that are there -/
def AVa (W : World) (a : AV) (v : Value) : Prop := ∀ (ok : Nat → Prop) (β : Nat → Ent), (∀ b, b < W.heap.size → ok b) → AV.rep W ok β a v
theorem AVa.d {W : World} {x : DV} {v : Value} (h : x.rep W (fun b => b < W.heap.size) v) : AVa W (.d x) v := fun ok β hok => DV.rep_mono (fun _ _ => rfl) hok x h
/-- the arguments read as these -/
def AVs (W : World) : List AV → List Value → Prop
  | [], vs => vs = []
  | a :: r, vs => ∃ v rest, vs = v :: rest ∧ AVa W a v ∧ AVs W r rest
theorem AVs.reps {W : World} {ok : Nat → Prop} {β : Nat → Ent} (hok : ∀ b, b < W.heap.size → ok b) : ∀ {l : List AV} {vs : List Value}, AVs W l vs → AV.reps W ok β l vs
  | [], _, h => h
  | a :: r, _, h => by
    obtain ⟨v, rest, rfl, h1, h2⟩ := h
    exact ⟨v, rest, rfl, h1 ok β hok, AVs.reps hok h2⟩

theorem law_calls {f : FuncId} {l : List AV} {W : World} {vs : List Value} (hg : laidMetH P0 laid1 W) (hd : Does P0 gl0 f l [] fun _ r => r = .d (.v (.bool true))) (hr : AVs W l vs) :
    Calls P0 f vs.toArray W fun e W' => e = .returned (.bool true) ∧ Below W.heap.size W W' := by
  have hcell := field_cells hg
  have hsize : 0 < W.heap.size := by
    rcases Nat.eq_zero_or_pos W.heap.size with h | h
    · have := hcell 0 (by decide)
      simp [World.cell?, Addr.add, h] at this
    · exact h
  let β : Nat → Ent := fun _ => ⟨0, 0, false⟩
  have hnS : ∀ b, ¬ S0of [] β b := fun b ⟨k, hk, _⟩ => hk.elim
  have hglob : GlobOk gl0 W (fun b => (fun _ => True) b ∧ ¬ S0of [] β b) := by
    intro g m f' hgl
    unfold gl0 at hgl
    cases hb : Nat.beq g 0 with
    | false => rw [hb] at hgl; cases hgl
    | true =>
      rw [hb] at hgl
      obtain rfl := Nat.eq_of_beq_eq_true hb
      cases hgl
      exact ⟨hsize, ⟨trivial, hnS _⟩, fun j hj => ⟨_, rfl, rfl, hcell j hj⟩⟩
  have hms : MS W (fun _ => True) (S0of [] β) β [] β W := ⟨fun k => trivial, fun j k hj => hj.elim, fun k hk => hk.elim, ⟨rfl, rfl, rfl, Nat.le_refl _, fun _ _ _ => rfl⟩, fun _ _ => rfl⟩
  refine Calls.mono (hd W β (fun _ => True) vs hglob hms (hr.reps fun b hb => ⟨hb, .inr (.inl trivial), fun k hk => hk.elim⟩)) fun e w' he => ?_
  cases e with
  | panicked _ => exact he.elim
  | outgrown => exact he.elim
  | returned v =>
    obtain ⟨mm', β', r, rfl, hms', hr⟩ := he
    exact ⟨by rw [show v = .bool true from hr], hms'.fr.os, hms'.fr.tape, hms'.fr.output, hms'.fr.size, fun b hb => hms'.fr.block b hb (hnS b)⟩

theorem trodAll_below {H : Type} {enc : TypeId × Value → H} {W W' : World} (hb : Below W.heap.size W W') {sp : Nat → Bool} : ∀ {ts : List TypeId} {vs : List Value} {ds : List (DataW H)} {p : List MemPlace},
    (∀ t ∈ ts, P0.readableRec t = true ∧ t < P0.types.size) → DataW.TrodAll enc P0 W 0 (fun _ => true) true ts vs ds p → (∀ x ∈ p, x.block < W.heap.size) → (∀ x ∈ p, sp x.block = true) → DataW.TrodAll enc P0 W' 0 sp true ts vs ds p
  | [], vs, ds, p, _, h, _, _ => by
    obtain ⟨rfl, rfl, rfl⟩ := trodAll_nil h
    exact trodAll_mk0
  | t :: ts, vs, ds, p, hr, h, hlt, hs => by
    obtain ⟨v, vs', d, ds', p, q, rfl, rfl, rfl, h1, h2⟩ := trodAll_cons h
    have ht := hr t (List.mem_cons.2 (.inl rfl))
    exact trodAll_cons_mk (WideElems.Trod_stays laidOut0 ht.1 ht.2 h1 (fun x hx => hb.same (hlt x (List.mem_append_left _ hx))) (fun x hx => hs x (List.mem_append_left _ hx)))
      (trodAll_below hb (fun t ht => hr t (List.mem_cons.2 (.inr ht))) h2 (fun x hx => hlt x (List.mem_append_right _ hx)) (fun x hx => hs x (List.mem_append_right _ hx)))

/-- What a law's proof brings: whatever the arguments read as, they are data at which the call comes to true. -/
def LawDoes (f : FuncId) (fn : Func) : Prop :=
  ∀ (H : Type) (enc : TypeId × Value → H) (W : World) (args : Array Value) (ds : List (DataW H)) (p : List MemPlace), DataW.TrodAll enc P0 W 0 (fun _ => true) true fn.params.toList args.toList ds p →
    (∀ x ∈ p, x.block < W.heap.size) → (∀ (j : Nat) t v, fn.params[j]? = some t → args[j]? = some v → ∃ base, Value.okWide P0 W .any base t v) → (DataW.weightsEach P0 fn.params.toList ds).all (· ≤ reachBytes) = true → ∃ l : List AV, AVs W l args.toList ∧ Does P0 gl0 f l [] fun _ r => r = .d (.v (.bool true))

set_option maxRecDepth 100000 in
theorem law_lifted {H : Type} {enc : TypeId × Value → H} {f : FuncId} {fn : Func} {s : ChangeSpec} {os : Os} (started : os.Started) (noInit : Tryd.checked.prog.inits.idxOf? f = none) (hfn : P0.funcs[f]? = some fn)
    (hvars : s.vars = []) (hres : fn.resultTypes = #[4]) (hspec : ∀ ds, ds.length = fn.params.toList.length → s.fn H ds = { results := [.lit (.bool true)], args := ds })
    (hread : ∀ t ∈ fn.params.toList, P0.readableRec t = true ∧ t < P0.types.size)
    (witness : ∃ (w : World) (tape : Tape) (i : Input), w.os = os ∧ (w.forCall tape i).Shaped Tryd.checked.prog ∧ i.vars = [] ∧ Input.okWide Tryd.checked.prog (w.forCall tape i) .any w.heap.size f i ∧
      ((s.pre enc Tryd.checked.prog fn [] false (w.forCall tape i).memory i.args ∧ laidMetH Tryd.prog laid1 (w.forCall tape i).memory) ∧ sizedMet enc Tryd.checked.prog fn (OpenSpec.ofChange s) false (w.forCall tape i).memory i.args) ∧ ({} : Assume).holds Tryd.checked.prog (lone (Frame.enter Tryd.checked.prog f i.args .normal) [] (w.forCall tape i)))
    (hlaw : LawDoes f fn) :
    ReturnsInHanded {} Tryd.checked os f .any (fun w args => (s.pre enc P0 fn [] false w args ∧ laidMetH P0 laid1 w) ∧ sizedMet enc P0 fn (OpenSpec.ofChange s) false w args) (s.post enc P0 fn false true false false) := by
  refine returnsInHanded_of_change_and (C := Tryd.checked) (X := fun w _ => laidMetH P0 laid1 w) (fun _ _ _ hh h => h.of_heap hh) own0 started noInit hfn witness ?_
  intro W base args ds gs before hval hW _ hsz hL _
  have hval' : ∀ (j : Nat) t v, fn.params[j]? = some t → args[j]? = some v → Value.okWide P0 W .any base t v := hval
  have hW' := hW
  obtain ⟨p, q, hA, hV, rfl, hfz, hnd⟩ := hW
  rw [hvars] at hV
  obtain ⟨rfl, rfl⟩ := trodVars_none hV
  have hA' : DataW.TrodAll enc P0 W 0 (fun _ => true) true fn.params.toList args.toList ds p := hA
  have hlt : ∀ x ∈ p, x.block < W.heap.size := fun x hx => hW'.lt x (by simpa using hx)
  have hsz' : (DataW.weightsEach P0 fn.params.toList ds).all (· ≤ reachBytes) = true := by
    have e : s.plain.varTypes Tryd.checked.prog = [] := by
      simp [DataSpec.varTypes, ChangeSpec.plain, hvars]
    rw [e, List.append_nil, List.append_nil] at hsz
    exact hsz
  obtain ⟨l, hl, hd⟩ := hlaw H enc W args ds p hA' hlt (fun j t v h1 h2 => Exists.intro base (hval' j t v h1 h2)) hsz'
  have hsp := hspec ds (trodAll_length hA').2
  refine (show Calls P0 f args W _ from law_calls hL hd hl).mono fun e W' ⟨he, hb⟩ => ⟨_, he, ?_⟩
  refine post_of_below (pa := p) (pv := []) hW' ?_ ?_ ?_ rfl hb ?_
  · intro b sp hd'
    rw [List.append_nil, hsp, hres]
    exact trodAll_mk1 (shut_bool Tryd.underlying4 _)
  · intro sp hs
    rw [List.append_nil, hsp]
    exact trodAll_below hb hread hA' hlt (fun x hx => hs x (by simpa using hx))
  · intro sp hs
    rw [List.append_nil, hsp, hvars]
    exact rfl
  · exact ok_one hres rfl (okWide_bool_mk Tryd.underlying4 _)
end Go.Proofs.YtgdcefohfebleaaDoor.V
/- the statement HealthWorst: for every list of stripes the law returns true -/
set_option linter.unusedVariables false
set_option linter.unusedSimpArgs false
namespace Go.Proofs.YtgdcefohfebleaaDoor.V
open Go Go.Proofs Go.RowKit Go.WideShapes Go.ChangeShapes Go.Deep

theorem c60 : Tryd.prog.cellsOf 60 = 4 := by kernel_rfl
theorem b60 : Tryd.prog.bytesOf 60 = 32 := by kernel_rfl
theorem c58 : Tryd.prog.cellsOf 58 = 2 := by kernel_rfl

set_option maxRecDepth 100000 in
theorem open_hl {H : Type} {enc : TypeId × Value → H} {W : World} {base : Nat} {sp : Nat → Bool} {hd : Bool} {n : Nat} {cs : List Value} {x : DataW H × List MemPlace} (h : DataW.trod enc P0 W base sp hd n 60 cs = some x) :
    ∃ s : Hl, cs = [.int .i64 s.row, .int .i64 s.group, .int .i64 s.left, .int .i64 s.bad] := by
  obtain ⟨y0, y1, y2, n', _, hl, e0, e1, e2⟩ := trod_struct3 Tryd.underlying60 h
  rw [c60] at hl
  obtain ⟨a, b, c, d, rfl⟩ : ∃ a b c d, cs = [a, b, c, d] := by
    match cs, hl with
    | [a, b, c, d], _ => exact ⟨a, b, c, d, rfl⟩
  rw [c58] at e0
  rw [c3] at e1 e2
  simp at e0 e1 e2
  obtain ⟨z0, z1, n'', _, _, f0, f1⟩ := trod_struct2 Tryd.underlying58 e0
  rw [c3] at f0 f1
  simp at f0 f1
  obtain ⟨k0, q0, _, _⟩ := DataW.trod_int Tryd.underlying3 f0
  obtain ⟨k1, q1, _, _⟩ := DataW.trod_int Tryd.underlying3 f1
  obtain ⟨k2, q2, _, _⟩ := DataW.trod_int Tryd.underlying3 e1
  obtain ⟨k3, q3, _, _⟩ := DataW.trod_int Tryd.underlying3 e2
  simp only [List.cons.injEq, and_true] at q0 q1 q2 q3
  exact ⟨⟨k0, k1, k2, k3⟩, by rw [q0, q1, q2, q3]⟩

instance : Inhabited Hl := ⟨Hl.none⟩

set_option maxRecDepth 100000 in
theorem open_hls {H : Type} {enc : TypeId × Value → H} {W : World} {v : Value} {d : DataW H} {p : List MemPlace} (h : DataW.Trod enc P0 W 0 (fun _ => true) true 55 v d p) (hlt : ∀ x ∈ p, x.block < W.heap.size)
    (hval : ∃ base, Value.okWide P0 W .any base 55 v) (hsz : (DataW.weightsEach P0 [55] [d]).all (· ≤ reachBytes) = true) : ∃ l : List Hl, l.length ≤ big ∧ (hlDV l).rep W (fun b => b < W.heap.size) v := by
  obtain ⟨base, hval⟩ := hval
  obtain ⟨a0, len0, cap0, rfl⟩ := okWide_slice Tryd.underlying55 hval
  obtain ⟨n, hn⟩ := h
  rcases open_slice Tryd.underlying55 hn with ⟨e, _⟩ | ⟨a, len, cap, m, n', D, Pl, e, _, hlc, _, hm, hx, hel⟩
  · have e' : Value.slice a0 len0 cap0 = .slice none 0 0 := by simpa [Value.cells] using e
    rw [e']
    exact ⟨[], Nat.zero_le _, none, 0, rfl, Nat.le_refl _, fun h => absurd h (Nat.lt_irrefl _)⟩
  · have e' : Value.slice a0 len0 cap0 = .slice (some a) len cap := by simpa [Value.cells] using e
    rw [e']
    simp only [if_true] at hm
    subst hm
    simp only [Prod.mk.injEq] at hx hel
    rw [c60] at hx hel
    obtain ⟨S, hS⟩ := choose_lt (n := len) (p := fun i (s : Hl) => W.cells? 0 (a.add (i * 4)) 4 = some [.int .i64 s.row, .int .i64 s.group, .int .i64 s.left, .int .i64 s.bad]) (fun i hi => by
      obtain ⟨cs, h1, h2⟩ := hel i (by omega)
      obtain ⟨s, rfl⟩ := open_hl h2
      exact ⟨s, h1⟩)
    have hlen : len ≤ big := by
      rw [hx.1] at hsz
      have := sized_slice hsz (j := 0) (t := 55) (e := 60) rfl rfl Tryd.underlying55
      rw [b60] at this
      simp [reachBytes] at this
      unfold big
      omega
    refine ⟨(List.range len).map S, by simpa using hlen, some a, m, by simp [hlDV], by simpa [hlDV] using hlc, fun hpos => ⟨a, rfl, ?_, fun i hi j hj => ?_⟩⟩
    · simp [hlDV] at hpos
      have hin : MemPlace.cell a.block a.off ∈ p := by
        rw [hx.2]
        exact List.mem_append_left _ (MemPlace.mem_row.2 ⟨0, by omega, rfl⟩)
      exact hlt _ hin
    · have hi' : i < len := by simpa [hlDV] using hi
      obtain ⟨_, _, hc⟩ := World.cells?_some (hS i hi')
      have hj' : j < 4 := hj
      have hcj := hc j (by simpa using hj')
      have hg : ((List.range len).map S).getD i Hl.none = S i := by
        simp [List.getD, hi']
      rw [add_add] at hcj
      rw [hcj]
      match j, hj' with
      | 0, _ => exact ⟨_, rfl, rfl, by show _ = _; simp only [hlEl, hg]; rfl⟩
      | 1, _ => exact ⟨_, rfl, rfl, by show _ = _; simp only [hlEl, hg]; rfl⟩
      | 2, _ => exact ⟨_, rfl, rfl, by show _ = _; simp only [hlEl, hg]; rfl⟩
      | 3, _ => exact ⟨_, rfl, rfl, by show _ = _; simp only [hlEl, hg]; rfl⟩

theorem params9 : Tryd.f9.params.toList = [55] := rfl
theorem worst_does : LawDoes 9 Tryd.f9 := by
  intro H enc W args ds p hA hlt hval hsz
  rw [params9] at hA hsz
  obtain ⟨v, d, rfl, rfl, h0⟩ := trodAll_one hA
  obtain ⟨l, hl, hr⟩ := open_hls h0 hlt (hval 0 55 v rfl rfl) hsz
  exact ⟨[.d (hlDV l)], ⟨v, [], rfl, AVa.d hr, rfl⟩, lawWorst l hl⟩

theorem read55 : P0.readableRec 55 = true := by kernel_rfl
theorem row55 : 55 < P0.types.size := of_decide_eq_true (by kernel_rfl)
set_option maxRecDepth 100000 in
theorem healthWorst_lifted (os : Os) (started : os.Started) (H : Type) (enc : TypeId × Value → H) :
    ReturnsInHanded {} Tryd.checked os 9 .any (fun w args => (Go.Proofs.YtgdcefohfebleaaDoor.Rows.healthWorstSpec.pre enc P0 Tryd.f9 [] false w args ∧ laidMetH P0 laid1 w) ∧ sizedMet enc P0 Tryd.f9 (OpenSpec.ofChange Go.Proofs.YtgdcefohfebleaaDoor.Rows.healthWorstSpec) false w args)
      (Go.Proofs.YtgdcefohfebleaaDoor.Rows.healthWorstSpec.post enc P0 Tryd.f9 false true false false) :=
  law_lifted (s := Go.Proofs.YtgdcefohfebleaaDoor.Rows.healthWorstSpec) started (by kernel_rfl) Tryd.func9 rfl rfl
    (fun ds hds => by
      match ds, hds with
      | [d], _ => rfl)
    (fun t ht => by
      rw [params9] at ht
      obtain rfl : t = 55 := by simpa using ht
      exact ⟨read55, row55⟩)
    (ChangeSpec.witness_shaped (enc := enc) (C := Tryd.checked) (os := os) (X := fun w _ => laidMetH Tryd.prog laid1 w) false (World.doorLaid Tryd.prog 400 os) #[.slice none 0 0] 8 rfl (World.shaped_of_RefB (by kernel_rfl) (by kernel_rfl)) (by kernel_rfl) (by kernel_rfl) (by kernel_rfl) (door_met os _))
    worst_does
end Go.Proofs.YtgdcefohfebleaaDoor.V
