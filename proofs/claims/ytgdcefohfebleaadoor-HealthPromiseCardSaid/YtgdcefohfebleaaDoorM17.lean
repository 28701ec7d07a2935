/-
  Proved here, step by step for the theorem UW: lists of numbers and codes read as arguments; the law's small; the law HealthPromise walked; what distance.Left promises: plain law
  Conditions: those that stand in each theorem.
-/
import Derived.ChangeSlices
import Derived.Test.YtgdcefohfebleaaDoorM16
/- lists of numbers and codes read as arguments -/
set_option linter.unusedVariables false
set_option linter.unusedSimpArgs false
namespace Go.Proofs.YtgdcefohfebleaaDoor.V
open Go Go.Proofs Go.RowKit Go.WideShapes Go.ChangeShapes Go.Deep

theorem b3 : Tryd.prog.bytesOf 3 = 8 := by kernel_rfl
theorem b40 : Tryd.prog.bytesOf 40 = 24 := by kernel_rfl
theorem c40 : Tryd.prog.cellsOf 40 = 1 := by kernel_rfl
theorem c9 : Tryd.prog.cellsOf 9 = 1 := by kernel_rfl
theorem c26 : Tryd.prog.cellsOf 26 = 1 := by kernel_rfl
theorem c28 : Tryd.prog.cellsOf 28 = 5 := by kernel_rfl

theorem getD_take {α : Type} {l : List α} {n i : Nat} (h : i < n) (d : α) : (l.take n).getD i d = l.getD i d := by
  simp only [List.getD_eq_getElem?_getD, List.getElem?_take, if_pos h]

set_option maxRecDepth 100000 in
/-- a list of numbers -/
theorem open_num {H : Type} {enc : TypeId × Value → H} {W : World} {n : Nat} {cs : List Value} {x : DataW H × List MemPlace} (h : DataW.trod enc P0 W 0 (fun _ => true) true n 40 cs = some x) (hlt : ∀ y ∈ x.2, y.block < W.heap.size) :
    ∃ (l : List Int) (v : Value), cs = [v] ∧ one v = true ∧ (DV.ints .i64 l).rep W (fun b => b < W.heap.size) v ∧ ((∀ n ∈ x.1.weights P0 40, n ≤ reachBytes) → l.length ≤ big) := by
  rcases open_ints Tryd.underlying40 Tryd.underlying3 c3 h with ⟨rfl, rfl⟩ | ⟨a, len, cap, zs, rfl, _, hlc, _, hz, rfl, hc, _⟩
  · exact ⟨[], _, rfl, rfl, ⟨none, 0, rfl, Nat.le_refl _, fun h => absurd h (Nat.lt_irrefl _)⟩, fun _ => Nat.zero_le _⟩
  · simp only [if_true] at hz
    have hll : (zs.take len).length = len := by rw [List.length_take]; omega
    refine ⟨zs.take len, _, rfl, rfl, ⟨some a, cap, by rw [hll], by rw [hll]; exact hlc, fun hpos => ⟨a, rfl, ?_, fun i hi j hj => ?_⟩⟩, fun hw => ?_⟩
    · rw [hll] at hpos
      have hin : MemPlace.cell a.block a.off ∈ MemPlace.row a zs.length := MemPlace.mem_row.2 ⟨0, by omega, rfl⟩
      exact hlt _ hin
    · rw [hll] at hi
      obtain rfl : j = 0 := by omega
      exact ⟨_, by rw [show i * 1 + 0 = i by omega]; exact hc i (by omega), rfl, by show _ = _; rw [getD_take hi]⟩
    · have := hw ((lits .i64 (zs.take len) : List (DataW H)).length * 8 + (lits .i64 (zs.drop len) : List (DataW H)).length * 8) (by
        simp only [DataW.weights, Tryd.underlying40, b3]
        rw [← Nat.add_mul]
        exact List.mem_cons_self)
      rw [hll]
      simp [lits, reachBytes, List.length_take] at this
      unfold big
      omega

set_option maxRecDepth 100000 in
/-- rows of numbers -/
theorem open_numRows {H : Type} {enc : TypeId × Value → H} {W : World} {n : Nat} {cs : List Value} {x : DataW H × List MemPlace} (h : DataW.trod enc P0 W 0 (fun _ => true) true n 26 cs = some x) (hlt : ∀ y ∈ x.2, y.block < W.heap.size) :
    ∃ (p : List (List Int)) (v : Value), cs = [v] ∧ one v = true ∧ (rowsDV p).rep W (fun b => b < W.heap.size) v ∧ ((∀ n ∈ x.1.weights P0 26, n ≤ reachBytes) → p.length ≤ big) := by
  rcases open_slice Tryd.underlying26 h with ⟨rfl, _⟩ | ⟨a, len, cap, m, n', D, Pl, rfl, _, hlc, _, hm, rfl, hel⟩
  · exact ⟨[], _, rfl, rfl, ⟨none, 0, rfl, Nat.le_refl _, fun h => absurd h (Nat.lt_irrefl _)⟩, fun _ => Nat.zero_le _⟩
  · simp only [if_true] at hm
    subst hm
    simp only at hlt
    rw [c40] at hlt hel
    obtain ⟨S, hS⟩ := choose_lt (n := len) (p := fun i (l : List Int) => ∃ v, W.cell? (a.add i) = some v ∧ one v = true ∧ (DV.ints .i64 l).rep W (fun b => b < W.heap.size) v) (fun i hi => by
      obtain ⟨cs, h1, h2⟩ := hel i (by omega)
      obtain ⟨l, v, rfl, ho, hr, _⟩ := open_num h2 (fun y hy => hlt y (by
        simp only [List.mem_append, List.mem_flatMap]
        exact .inr ⟨i, List.mem_range.2 (by omega), hy⟩))
      have hc := (World.cells?_some h1).2.2 0 (by decide)
      rw [add_add, show i * 1 + 0 = i by omega] at hc
      exact ⟨l, v, by rw [hc]; rfl, ho, hr⟩)
    refine ⟨(List.range len).map S, _, rfl, rfl, ⟨some a, m, by simp, by simpa using hlc, fun hpos => ⟨a, rfl, ?_, fun i hi j hj => ?_⟩⟩, fun hw => ?_⟩
    · simp at hpos
      have hin : MemPlace.cell a.block a.off ∈ MemPlace.row a (m * 1) := MemPlace.mem_row.2 ⟨0, by omega, rfl⟩
      exact hlt _ (List.mem_append_left _ hin)
    · have hi' : i < len := by simpa using hi
      obtain rfl : j = 0 := by omega
      obtain ⟨v, hc, ho, hr⟩ := hS i hi'
      have hg : ((List.range len).map S).getD i [] = S i := by
        simp [List.getD, hi']
      refine ⟨v, by rw [show i * 1 + 0 = i by omega]; exact hc, ho, ?_⟩
      show (DV.ints .i64 (((List.range len).map S).getD i [])).rep _ _ _
      rw [hg]
      exact hr
    · have := hw ((List.range len).length * 24 + (m - len) * 24) (by
        simp only [DataW.weights, Tryd.underlying26, b40, List.length_map, List.length_range]
        rw [← Nat.add_mul]
        exact List.mem_cons_self)
      simp [reachBytes] at this
      rw [List.length_map, List.length_range]
      unfold big
      omega

set_option maxRecDepth 100000 in
/-- a code -/
theorem open_code {H : Type} {enc : TypeId × Value → H} {W : World} {n : Nat} {cs : List Value} {x : DataW H × List MemPlace} (h : DataW.trod enc P0 W 0 (fun _ => true) true n 28 cs = some x) (hlt : ∀ y ∈ x.2, y.block < W.heap.size) :
    ∃ (c : Cod) (v : Value), cs = [.string c.name, .int .i64 c.field, .int .i64 c.data, v, .int .i64 c.domain] ∧ one v = true ∧ (rowsDV c.parity).rep W (fun b => b < W.heap.size) v ∧
      ((∀ n ∈ x.1.weights P0 28, n ≤ reachBytes) → c.name.size ≤ big ∧ c.parity.length ≤ big) := by
  obtain ⟨xs, n', _, rfl, hl, hn, hf⟩ := DataW.trod_struct Tryd.underlying28 h
  rw [c28] at hl
  obtain ⟨v0, v1, v2, v3, v4, rfl⟩ : ∃ a b c d e, cs = [a, b, c, d, e] := by
    match cs, hl with
    | [a, b, c, d, e], _ => exact ⟨a, b, c, d, e, rfl⟩
  obtain ⟨x0, x1, x2, x3, x4, rfl⟩ : ∃ a b c d e, xs = [a, b, c, d, e] := by
    match xs, hn with
    | [a, b, c, d, e], _ => exact ⟨a, b, c, d, e, rfl⟩
  have f0 : DataW.trod enc P0 W 0 (fun _ => true) true n' 9 (List.take (P0.cellsOf 9) (List.drop 0 [v0, v1, v2, v3, v4])) = some x0 := hf 0 _ rfl
  have f1 : DataW.trod enc P0 W 0 (fun _ => true) true n' 3 (List.take (P0.cellsOf 3) (List.drop 1 [v0, v1, v2, v3, v4])) = some x1 := hf 1 _ rfl
  have f2 : DataW.trod enc P0 W 0 (fun _ => true) true n' 3 (List.take (P0.cellsOf 3) (List.drop 2 [v0, v1, v2, v3, v4])) = some x2 := hf 2 _ rfl
  have f3 : DataW.trod enc P0 W 0 (fun _ => true) true n' 26 (List.take (P0.cellsOf 26) (List.drop 3 [v0, v1, v2, v3, v4])) = some x3 := hf 3 _ rfl
  have f4 : DataW.trod enc P0 W 0 (fun _ => true) true n' 3 (List.take (P0.cellsOf 3) (List.drop 4 [v0, v1, v2, v3, v4])) = some x4 := hf 4 _ rfl
  rw [c9] at f0
  rw [c3] at f1 f2 f4
  rw [c26] at f3
  simp at f0 f1 f2 f3 f4
  obtain ⟨s, q0, rfl, _⟩ := DataW.trod_string Tryd.underlying9 f0
  obtain ⟨k1, q1, _, _⟩ := DataW.trod_int Tryd.underlying3 f1
  obtain ⟨k2, q2, _, _⟩ := DataW.trod_int Tryd.underlying3 f2
  obtain ⟨p, v, q3, ho, hr, hp⟩ := open_numRows f3 (fun y hy => hlt y (by simp [hy]))
  obtain ⟨k4, q4, _, _⟩ := DataW.trod_int Tryd.underlying3 f4
  simp only [List.cons.injEq, and_true] at q0 q1 q2 q3 q4
  subst q0; subst q1; subst q2; subst q3; subst q4
  refine ⟨⟨s, k1, k2, p, k4⟩, v3, rfl, ho, hr, fun hw => ?_⟩
  have hw' : ∀ (j : Nat) (t : TypeId) (d : DataW H), ([9, 3, 3, 26, 3] : List TypeId)[j]? = some t → ([DataW.lit (.string s.data.toList), x1.1, x2.1, x3.1, x4.1] : List (DataW H))[j]? = some d → ∀ n ∈ d.weights P0 t, n ≤ reachBytes := by
    intro j t d h1 h2 n hn
    refine hw n ?_
    have := DataW.weights_mem_each h1 h2 n hn
    simpa [DataW.weights, Tryd.underlying28] using this
  refine ⟨?_, hp (hw' 3 26 _ rfl rfl)⟩
  have := hw' 0 9 _ rfl rfl s.data.toList.length (by simp [DataW.weights])
  simp [reachBytes] at this
  unfold big
  have e : s.size = s.data.size := rfl
  show s.size ≤ _
  omega

theorem rep_code {W : World} {c : Cod} {v : Value} (ho : one v = true) (hr : (rowsDV c.parity).rep W (fun b => b < W.heap.size) v) : AVa W (codAV c) (.agg #[.string c.name, .int .i64 c.field, .int .i64 c.data, v, .int .i64 c.domain]) := by
  intro ok β hok
  refine ⟨[.string c.name, .int .i64 c.field, .int .i64 c.data, v, .int .i64 c.domain], rfl, ?_, ?_⟩
  · intro u hu
    simp only [List.mem_cons, List.not_mem_nil, or_false] at hu
    rcases hu with rfl | rfl | rfl | rfl | rfl <;> first | rfl | exact ho
  · exact ⟨_, _, rfl, rfl, _, _, rfl, rfl, _, _, rfl, rfl, _, _, rfl, DV.rep_mono (fun _ _ => rfl) hok (rowsDV c.parity) hr, _, _, rfl, rfl, rfl⟩

set_option maxRecDepth 100000 in
theorem arg_num {H : Type} {enc : TypeId × Value → H} {W : World} {v : Value} {d : DataW H} {p : List MemPlace} (h : DataW.Trod enc P0 W 0 (fun _ => true) true 40 v d p) (hlt : ∀ x ∈ p, x.block < W.heap.size)
    (hval : ∃ base, Value.okWide P0 W .any base 40 v) (hsz : ∀ n ∈ d.weights P0 40, n ≤ reachBytes) : ∃ l : List Int, l.length ≤ big ∧ AVa W (.d (.ints .i64 l)) v := by
  obtain ⟨base, hval⟩ := hval
  obtain ⟨a0, len0, cap0, rfl⟩ := okWide_slice Tryd.underlying40 hval
  obtain ⟨n, hn⟩ := h
  obtain ⟨l, v, e, _, hr, hl⟩ := open_num hn hlt
  have e' : Value.slice a0 len0 cap0 = v := by simpa [Value.cells] using e
  rw [e']
  exact ⟨l, hl hsz, AVa.d hr⟩
set_option maxRecDepth 100000 in
theorem arg_code {H : Type} {enc : TypeId × Value → H} {W : World} {v : Value} {d : DataW H} {p : List MemPlace} (h : DataW.Trod enc P0 W 0 (fun _ => true) true 28 v d p) (hlt : ∀ x ∈ p, x.block < W.heap.size)
    (hval : ∃ base, Value.okWide P0 W .any base 28 v) (hsz : ∀ n ∈ d.weights P0 28, n ≤ reachBytes) : ∃ c : Cod, c.name.size ≤ big ∧ c.parity.length ≤ big ∧ AVa W (codAV c) v := by
  obtain ⟨base, hval⟩ := hval
  obtain ⟨cs, rfl, _⟩ := okWide_struct Tryd.underlying28 hval
  obtain ⟨n, hn⟩ := h
  obtain ⟨c, v, e, ho, hr, hl⟩ := open_code hn hlt
  have e' : cs = #[.string c.name, .int .i64 c.field, .int .i64 c.data, v, .int .i64 c.domain] := by
    apply Array.ext'
    simpa [Value.cells] using e
  rw [e']
  exact ⟨c, (hl hsz).1, (hl hsz).2, rep_code ho hr⟩
end Go.Proofs.YtgdcefohfebleaaDoor.V
/- the law's small; the law HealthPromise walked -/
set_option linter.unusedVariables false
set_option linter.unusedSimpArgs false
namespace Go.Proofs.YtgdcefohfebleaaDoor.V
open Go Go.Proofs

def smallF (c : Cod) : Bool := decide (0 ≤ c.data) && decide (c.data ≤ 5) && decide (c.parity.length ≤ 5) && decide (c.data + c.parity.length ≤ 8)
def smC : List AV → (AV → Prop) → Prop
  | [a], K => codK a fun c => Ob (c.parity.length ≤ big) ∧ K (.d (.v (.bool (smallF c))))
  | _, _ => False
theorem small_ok : Meets P0 gl0 24 (.lend smC) := by
  intro args K h0
  unfold smC at h0
  split at h0
  · rename_i a
    obtain ⟨c, ⟨⟨hp⟩, h1⟩, hle⟩ := codK_ok h0
    refine Does.conv (args' := [codAV c]) (Les.cons hle (Les.refl _)) ?_
    have hK : ∀ b, b = smallF c → K (.d (.v (.bool b))) := fun b hb => by rw [hb]; exact h1
    refine does_mk noEq_ok (SpsOk.nil gl0) Tryd.func24 {} (fun i g s h => by cases h) [] ?_
    repeat' (first | refine And.intro ?_ ?_ | intro _ | (refine brK_id ?_; first | with_reducible refine brK_t ?_ | with_reducible refine brK_f ?_ | with_reducible refine brK_dec ?_ ?_ | with_reducible refine brK_ndec ?_ ?_ | refine brK_of ?_ ?_) | exact True.intro | refine hK _ ?_ | fail)
    all_goals (try (refine ⟨?_⟩))
    all_goals (try with_reducible rfl)
    all_goals (try simp only [big] at *)
    all_goals (try omega)
    all_goals (try (unfold in64; omega))
    all_goals (unfold smallF)
    all_goals (try simp [*])
    all_goals (try omega)
  · exact h0.elim
/-- without the units that the first i of x name -/
def lostN (h : List Bool) (x : List Int) : Nat → List Bool
  | 0 => h
  | i + 1 => if 0 ≤ x.getD i 0 ∧ x.getD i 0 < (h.length : Int) then (lostN h x i).set (x.getD i 0).toNat false else lostN h x i
theorem lostN_len (h : List Bool) (x : List Int) : ∀ i, (lostN h x i).length = h.length
  | 0 => rfl
  | i + 1 => by
    rw [lostN]
    split
    · rw [List.length_set, lostN_len h x i]
    · exact lostN_len h x i
theorem lostN_zero (h : List Bool) (x : List Int) : lostN h x 0 = h := rfl
theorem lostN_in {h : List Bool} {x : List Int} {i : Nat} (h1 : 0 ≤ x.getD i 0) (h2 : x.getD i 0 < (h.length : Int)) : lostN h x (i + 1) = (lostN h x i).set (x.getD i 0).toNat false := by rw [lostN, if_pos ⟨h1, h2⟩]
theorem lostN_out {h : List Bool} {x : List Int} {i : Nat} (h1 : ¬ (0 ≤ x.getD i 0 ∧ x.getD i 0 < (h.length : Int))) : lostN h x (i + 1) = lostN h x i := by rw [lostN, if_neg h1]
/-- after f losses, whichever they are, the stripe can be decoded -/
def Promise : Prop := ∀ (c : Cod) (h : List Bool) (x : List Int), (x.length : Int) ≤ leftF c h → decF c (lostN h x x.length) = true
def lawPL (h : List Bool) (x : List Int) : LAnn := { ι := BI, nils := [], vars := fun y => [(10, .d (.v (.int .i64 (y.i : Int))))], mem := fun y => [(35, .row 4 (.bools (lostN h x y.i)))], inv := fun y => y.i ≤ x.length, init := ⟨0⟩, meas := fun y => x.length - y.i }
def spsP1 : List (Nat × SpecE) := [(24, .lend smC), (25, .lend sanC), (26, .lend hLeftC), (27, .data haveC), (20, .lend decC)]
theorem spsP1_ok : SpsOk gl0 spsP1 := ((((((SpsOk.nil gl0).cons ⟨Tryd.f20, Tryd.func20, by decide, rfl⟩ dec_ok).cons have_fn (have_ok gl0)).cons ⟨Tryd.f26, Tryd.func26, by decide, rfl⟩ hLeft_ok).cons ⟨Tryd.f25, Tryd.func25, by decide, rfl⟩ san_ok).cons ⟨Tryd.f24, Tryd.func24, by decide, rfl⟩ small_ok)
theorem hLeftF_eq (c : Cod) (s : List Int) : hLeftF c s = leftF c (haveF s) := rfl
attribute [local irreducible] decF lostN hLeftF smallF haveF
set_option maxHeartbeats 4000000 in
set_option maxRecDepth 20000 in
theorem lawPromise (hpr : Promise) (c : Cod) (s x : List Int) (hn : c.name.size ≤ big) (hp : c.parity.length ≤ big) (hs : s.length ≤ big) (hx : x.length ≤ big) : Does P0 gl0 7 [codAV c, .d (.ints .i64 s), .d (.ints .i64 x)] [] fun _ r => r = .d (.v (.bool true)) := by
  have hK : ∀ b, b = true → (AV.d (.v (.bool b))) = .d (.v (.bool true)) := fun b hb => by rw [hb]
  refine does_mk noEq_ok spsP1_ok Tryd.func7 {} (fun i g s h => by cases h) [] ?_
  repeat' (first | refine And.intro ?_ ?_ | intro _ | (refine brK_id ?_; first | with_reducible refine brK_t ?_ | with_reducible refine brK_f ?_ | with_reducible refine brK_dec ?_ ?_ | with_reducible refine brK_ndec ?_ ?_ | refine brK_of ?_ ?_) | exact True.intro | refine hK _ ?_ | refine ExL.intro (id := 9) (lawPL (haveF s) x) ?_ | refine Exists.intro (BI.mk ((by assumption : BI).i + 1)) ?_ | refine Exists.intro (α := List (List Int)) c.parity ?_ | fail)
  all_goals (try (refine ⟨?_⟩))
  all_goals (try with_reducible rfl)
  all_goals (try (exact Rows.self _))
  all_goals (try simp only [Int.toNat_natCast, big] at *)
  all_goals (try assumption)
  all_goals (try omega)
  all_goals (try (unfold in64; omega))
  all_goals (try (exact ⟨by omega, by omega⟩))
  all_goals (try (have hB : (by assumption : List Bool) = haveF s := by assumption))
  all_goals (try (rw [lostN_zero]; assumption))
  all_goals (have hn' : (by assumption : Nat) = s.length := by assumption)
  all_goals (have hlen : (haveF s).length = s.length := haveF_len s)
  all_goals (try (exact lostN_out (by omega)))
  all_goals (try (exact (lostN_out (by omega)).symm))
  all_goals (try (exact (lostN_in (by omega) (by omega)).symm))
  all_goals (try (show _ < (lostN (haveF s) x _).length; rw [lostN_len]; omega))
  all_goals (try (show _ = (lostN (haveF s) x _).length; rw [lostN_len]; omega))
  · have hi : (by assumption : BI).i = x.length := by omega
    rw [hi]
    exact hpr c (haveF s) x (by
      have hl := (by assumption : ¬ hLeftF _ s < (x.length : Int))
      have hl : ¬ hLeftF c s < (x.length : Int) := hl
      rw [hLeftF_eq] at hl
      exact Int.not_lt.1 hl)
end Go.Proofs.YtgdcefohfebleaaDoor.V
/- what distance.Left promises: plain law -/
set_option linter.unusedVariables false
set_option linter.unusedSimpArgs false
namespace Go.Proofs.YtgdcefohfebleaaDoor.V
open Go Go.Proofs

theorem fb_all {l : List Int} {p : List Int → Bool} : ∀ (d n i : Nat) (set : List Int), l.length - i = n → fb l p d i set = none → ∀ y : List Int, List.Sublist y (l.drop i) → y.length = d → p (set ++ y) = true
  | 0, n, i, set, _, h, y, _, hl => by
    obtain rfl : y = [] := List.eq_nil_of_length_eq_zero hl
    rw [List.append_nil]
    cases hp : p set with
    | true => rfl
    | false => simp [fb, hp] at h
  | d + 1, 0, i, set, hn, h, y, hy, hl => by
    have e : l.drop i = [] := List.drop_eq_nil_of_le (by omega)
    rw [e] at hy
    have := List.sublist_nil.1 hy
    subst this
    simp at hl
  | d + 1, n + 1, i, set, hn, h, y, hy, hl => by
    have hi : i < l.length := by omega
    rw [fb_step hi] at h
    rw [List.drop_eq_getElem_cons hi] at hy
    cases h1 : fb l p d (i + 1) (set ++ [l.getD i 0]) with
    | some s => rw [h1] at h; cases h
    | none =>
      rw [h1] at h
      cases hy with
      | cons _ hy => exact fb_all (d + 1) n (i + 1) set (by omega) h y hy hl
      | cons_cons _ hy =>
        rename_i y'
        have := fb_all d _ (i + 1) (set ++ [l.getD i 0]) rfl h1 y' hy (by simpa using hl)
        rw [List.append_assoc] at this
        rw [show l.getD i 0 = l[i] by simp [List.getD, hi]] at this
        exact this

theorem seaF_all {c : Cod} {h : List Bool} : ∀ (n i k : Nat), (k : Int) ≤ (seaF c h n i).1 → ∀ g, i ≤ g → g < k → fb (presN h h.length) (spare c h) (g + 1) 0 [] = none
  | 0, i, k, hk, g, hi, hg => by
    simp only [seaF] at hk
    omega
  | n + 1, i, k, hk, g, hi, hg => by
    rw [seaF] at hk
    cases h1 : fb (presN h h.length) (spare c h) (i + 1) 0 [] with
    | some x =>
      rw [h1] at hk
      have hk : (k : Int) ≤ (i : Int) := hk
      omega
    | none =>
      rw [h1] at hk
      rcases Nat.lt_or_ge i g with hlt | hge
      · exact seaF_all n (i + 1) k hk g (by omega) hg
      · obtain rfl : g = i := by omega
        exact h1

/-- the positions below i at which h is and k is not -/
def presD (h k : List Bool) : Nat → List Int
  | 0 => []
  | i + 1 => presD h k i ++ (if h.getD i false = true ∧ k.getD i false = false then [(i : Int)] else [])
theorem presD_sub (h k : List Bool) : ∀ i, List.Sublist (presD h k i) (presN h i)
  | 0 => List.Sublist.refl _
  | i + 1 => by
    rw [presD, presN]
    refine List.Sublist.append (presD_sub h k i) ?_
    by_cases h1 : h.getD i false = true
    · rw [if_pos h1]
      by_cases h2 : k.getD i false = false
      · rw [if_pos ⟨h1, h2⟩]; exact List.Sublist.refl _
      · rw [if_neg (fun q => h2 q.2)]; exact List.nil_sublist _
    · rw [if_neg (fun q => h1 q.1), if_neg h1]; exact List.Sublist.refl _
theorem presD_mem (h k : List Bool) (u : Int) : ∀ i, u ∈ presD h k i ↔ ∃ j : Nat, u = j ∧ j < i ∧ h.getD j false = true ∧ k.getD j false = false
  | 0 => by
    constructor
    · intro q; cases q
    · rintro ⟨j, _, hj, _⟩; omega
  | i + 1 => by
    rw [presD, List.mem_append, presD_mem h k u i]
    constructor
    · rintro (⟨j, e, hj, h1⟩ | hu)
      · exact ⟨j, e, by omega, h1⟩
      · split at hu
        · rename_i h1
          exact ⟨i, by simpa using hu, by omega, h1⟩
        · cases hu
    · rintro ⟨j, e, hj, h1⟩
      rcases Nat.lt_or_ge j i with h2 | h2
      · exact .inl ⟨j, e, h2, h1⟩
      · obtain rfl : j = i := by omega
        refine .inr ?_
        rw [if_pos h1]
        simpa using e
theorem getD_set_ne {k : List Bool} {v j : Nat} (h : j ≠ v) (b : Bool) : (k.set v b).getD j false = k.getD j false := by
  simp only [List.getD_eq_getElem?_getD, List.getElem?_set]
  rw [if_neg (fun q => h q.symm)]
theorem getD_set_self {k : List Bool} {v : Nat} : (k.set v false).getD v false = false := by
  by_cases hv : v < k.length
  · simp [List.getD_eq_getElem?_getD, List.getElem?_set, hv]
  · rw [List.getD_eq_getElem?_getD, List.getElem?_eq_none (by simpa using hv)]
    rfl
theorem presD_set (h k : List Bool) (v : Nat) : ∀ i, (presD h (k.set v false) i).length ≤ (presD h k i).length + (if v < i then 1 else 0)
  | 0 => by simp [presD]
  | i + 1 => by
    have ih := presD_set h k v i
    rw [presD, presD, List.length_append, List.length_append]
    by_cases e : i = v
    · subst e
      rw [if_neg (Nat.lt_irrefl _)] at ih
      rw [if_pos (Nat.lt_succ_self _)]
      split <;> split <;> simp <;> omega
    · rw [getD_set_ne e]
      by_cases hv : v < i
      · rw [if_pos hv] at ih
        rw [if_pos (show v < i + 1 by omega)]
        omega
      · rw [if_neg hv] at ih
        rw [if_neg (show ¬ v < i + 1 by omega)]
        omega
theorem presD_self (h : List Bool) : ∀ i, presD h h i = []
  | 0 => rfl
  | i + 1 => by
    rw [presD, presD_self h i, if_neg (fun q => by rw [q.1] at q; cases q.2)]
    rfl
theorem lost_few (h : List Bool) (x : List Int) : ∀ n, (presD h (lostN h x n) h.length).length ≤ n
  | 0 => by rw [lostN, presD_self]; exact Nat.le_refl _
  | n + 1 => by
    have ih := lost_few h x n
    rw [lostN]
    split
    · have := presD_set h (lostN h x n) (x.getD n 0).toNat h.length
      split at this <;> omega
    · omega
theorem lost_le (h : List Bool) (x : List Int) (j : Nat) : ∀ n, (lostN h x n).getD j false = true → h.getD j false = true
  | 0, q => q
  | n + 1, q => by
    rw [lostN] at q
    split at q
    · by_cases e : j = (x.getD n 0).toNat
      · subst e
        rw [getD_set_self] at q
        cases q
      · rw [getD_set_ne e] at q
        exact lost_le h x j n q
    · exact lost_le h x j n q
theorem clrN_get (h : List Bool) (y : List Int) (hy : ∀ u ∈ y, 0 ≤ u) (j : Nat) : ∀ i, i ≤ y.length → ((clrN h y i).getD j false = true ↔ h.getD j false = true ∧ (j : Int) ∉ y.take i)
  | 0, _ => by simp [clrN]
  | i + 1, hi => by
    have ih := clrN_get h y hy j i (by omega)
    have hm : y.take (i + 1) = y.take i ++ [y.getD i 0] := by
      rw [List.take_add_one, List.getElem?_eq_getElem (by omega)]
      simp [List.getD, List.getElem?_eq_getElem (show i < y.length by omega)]
    have h0 : 0 ≤ y.getD i 0 := hy _ (by
      rw [List.getD_eq_getElem?_getD, List.getElem?_eq_getElem (show i < y.length by omega)]
      exact List.getElem_mem _)
    rw [clrN, hm, List.mem_append]
    by_cases e : j = (y.getD i 0).toNat
    · have e' : (j : Int) = y.getD i 0 := by omega
      constructor
      · intro q
        rw [e, getD_set_self] at q
        cases q
      · rintro ⟨_, q⟩
        exact absurd (.inr (by rw [e']; exact List.mem_singleton.2 rfl)) q
    · rw [getD_set_ne e, ih]
      have e' : ¬ (j : Int) = y.getD i 0 := by omega
      simp only [List.mem_singleton]
      constructor
      · rintro ⟨a, b⟩
        exact ⟨a, fun q => q.elim b e'⟩
      · rintro ⟨a, b⟩
        exact ⟨a, fun q => b (.inl q)⟩
theorem bools_ext {a b : List Bool} (hl : a.length = b.length) (h : ∀ j, a.getD j false = true ↔ b.getD j false = true) : a = b := by
  apply List.ext_getElem hl
  intro j h1 h2
  have := h j
  simp only [List.getD_eq_getElem?_getD, List.getElem?_eq_getElem h1, List.getElem?_eq_getElem h2, Option.getD_some] at this
  cases ha : a[j] <;> cases hb : b[j] <;> simp_all
theorem clr_lost (h : List Bool) (x : List Int) (n : Nat) : clrF h (presD h (lostN h x n) h.length) = lostN h x n := by
  apply bools_ext
  · unfold clrF
    rw [clrN_len, lostN_len]
  · intro j
    unfold clrF
    rw [clrN_get h _ (fun u hu => by obtain ⟨k, rfl, _⟩ := (presD_mem _ _ _ _).1 hu; omega) j _ (Nat.le_refl _), List.take_length, presD_mem]
    constructor
    · rintro ⟨a, b⟩
      cases hq : (lostN h x n).getD j false with
      | true => rfl
      | false =>
        refine absurd ⟨j, rfl, ?_, a, hq⟩ b
        rcases Nat.lt_or_ge j h.length with hj | hj
        · exact hj
        · rw [List.getD_eq_getElem?_getD, List.getElem?_eq_none hj] at a
          cases a
    · intro q
      refine ⟨lost_le h x j n q, ?_⟩
      rintro ⟨k, e, _, _, hk⟩
      obtain rfl : k = j := by omega
      rw [q] at hk
      cases hk

theorem left_spares {c : Cod} {h : List Bool} {y : List Int} (hl : (y.length : Int) ≤ leftF c h) (hy : List.Sublist y (presN h h.length)) : decF c (clrF h y) = true := by
  unfold leftF at hl
  split at hl
  · unfold searchF at hl
    split at hl
    · rename_i hd
      cases hn : y.length with
      | zero =>
        obtain rfl : y = [] := List.eq_nil_of_length_eq_zero hn
        exact hd
      | succ g =>
        have := seaF_all 4 0 y.length hl g (Nat.zero_le _) (by omega)
        have := fb_all (g + 1) _ 0 [] rfl this y (by simpa using hy) hn
        exact this
    · have hl : (y.length : Int) ≤ -1 := hl
      omega
  · omega
theorem promise : Promise := by
  intro c h x hl
  rw [← clr_lost h x x.length]
  refine left_spares (Int.le_trans ?_ hl) (presD_sub _ _ _)
  have := lost_few h x x.length
  omega
end Go.Proofs.YtgdcefohfebleaaDoor.V
