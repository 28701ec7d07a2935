/-
  Proved here, step by step for the theorem UW: clear, copy.; Every operation.; Loops: what a relation of slots and blocks says.
  Conditions: those that stand in each theorem.
-/
import Derived.Laws.CopyRow
import Derived.Test.YtgdcefohfebleaaDoorM04
import Derived.Test.YtgdcefohfebleaaDoorM05
/- clear, copy. -/
set_option linter.unusedVariables false
set_option linter.unusedSimpArgs false
set_option linter.unusedSectionVars false
namespace Go.Proofs.YtgdcefohfebleaaDoor.V
open Go Go.RowKit

section
variable {P : Program} {cx : Cx} {W0 : World} {ok0 S0 : Nat → Prop} {β0 : Nat → Ent} {tm : TM} {mm : MM} {β : Nat → Ent} {a : Act} {w : World} {o : Oper} {Q : Exit → Act → World → Prop} {K : TM → MM → Prop}

/-- Cells of a row are written; it is told as r'. -/
theorem SRep.rewrite (h : SRep cx W0 ok0 S0 β0 tm mm β a w) {b : Nat} {e : TypeId} {r r' : DV} (hb : lkM b mm = .row e r) (hlv : live mm β b) {vs vs' : List Value} (hh : w.heap[(β b).blk]? = some (.cells vs.toArray e (0, 0)))
    (hl : vs'.length = (β b).cap * r.width) (hs' : r'.isSl = true) (hw' : r'.width = r.width) (hl' : r'.len ≤ (β b).cap)
    (hc : ∀ i, i < r'.len → ∀ j, j < r.width → ∃ u, vs'[i * r.width + j]? = some u ∧ one u = true ∧ (r'.cell i j).rep w (okB W0 ok0 S0 mm β w) u) :
    SRep cx W0 ok0 S0 β0 tm (setM b (.row e r') mm) β a (w.setRow (β b).blk vs'.toArray) := by
  have hnil : (β b).nil = false := by unfold live at hlv; rw [hb] at hlv; exact hlv
  refine h.write hlv (.row e r') _ rfl rfl rfl (setRow_size _ _ _) (fun k hk => setRow_other w _ k _ hk) (by rw [live_set, if_pos rfl]; exact hnil) (fun ok' ho' => ?_)
  have hmono : ∀ (d : DV) (z : Value), d.rep w (okB W0 ok0 S0 mm β w) z → d.rep (w.setRow (β b).blk vs'.toArray) ok' z :=
    fun d z hz => DV.rep_mono (fun c hc => setRow_other w _ c _ (fun e => hc.2.2 b hlv e.symm)) (fun c hc => ho' c hc) d hz
  refine ⟨hs', ?_⟩
  rw [if_neg (by rw [hnil]; simp)]
  refine ⟨vs', setRow_heap w _ _ _ e _ hh, by rw [hw']; exact hl, hl', fun i hi j hj => ?_⟩
  rw [hw'] at hj ⊢
  obtain ⟨u, h1, h2, h3⟩ := hc i hi j hj
  exact ⟨u, h1, h2, hmono _ _ h3⟩
theorem clearK_ok (h : SRep cx W0 ok0 S0 β0 tm mm β a w) (hc : Cok P cx W0 ok0 S0) {t : TypeId} (ty : TypeId) {s : AV} (hk : clearK cx t s tm mm K) {u : Value} (hs : s.rep w (okB W0 ok0 S0 mm β w) β u) :
    ∃ w' mm', (Builtin.clear_ #[t] ty #[u]).run P w = .ok (.tuple #[]) w' ∧ SRep cx W0 ok0 S0 β0 tm mm' β a w' ∧ K tm mm' := by
  unfold clearK at hk
  obtain ⟨e, te, hu, T, hk⟩ := ewK_ok hc hk
  split at hk
  case h_2 => exact hk.elim
  rename_i b k off n _
  rw [getK_eq] at hk
  split at hk
  case h_2 => exact hk.elim
  rename_i e0 r hb
  have hbif : ∀ {q : Bool} {A : Prop}, (bif q then A else False) → q = true ∧ A := fun {q A} h => by
    cases q
    · exact h.elim
    · exact ⟨rfl, h⟩
  obtain ⟨hbb, ⟨hn, hoff⟩, hk1⟩ := hbif hk
  clear hk
  simp only [Bool.and_eq_true] at hbb
  obtain ⟨q1, q2, q3⟩ := hbb
  obtain rfl := Nat.eq_of_beq_eq_true q1
  have hw1 := Nat.eq_of_beq_eq_true q2
  obtain rfl := Nat.eq_of_beq_eq_true q3
  clear q1 q2 q3
  obtain ⟨r', hk, hs', hl', hw', hcell'⟩ := cutDV_ok hk1 (Nat.zero_le _) (by omega)
  rw [setK_eq] at hk
  obtain ⟨hlv, hsl, vs, hh, hvl, hcap, hcell⟩ := row_cells h hb (by omega)
  obtain ⟨A, c, rfl, hnc, hA⟩ := hs
  obtain rfl := hA hn
  obtain ⟨z, hz, hzc⟩ := T.zv (w := w)
  obtain ⟨zs, hzs⟩ : ∃ zs, zs = (Builtin.zeroCells z.cells n).toList := ⟨_, rfl⟩
  have hzl : zs.length = n * te.cells := by
    rw [hzs]; simp [Builtin.zeroCells, hzc, T.len, Nat.mul_comm]
  have hz1 : ∀ v ∈ zs, v.oneCell' = true := by
    intro v hv
    rw [← one_eq]
    rw [hzs] at hv
    simp only [Builtin.zeroCells, hzc, Array.toList_map, List.mem_map] at hv
    obtain ⟨i, hi, rfl⟩ := hv
    have hpos : 0 < te.zero.length := by
      rcases Nat.eq_zero_or_pos te.zero.length with h0 | h0
      · simp [h0] at hi
      · exact h0
    have hlt : i % te.zero.length < te.zero.length := Nat.mod_lt _ hpos
    simp only [List.size_toArray]
    rw [getElem!_pos te.zero.toArray (i % te.zero.length) (by simpa using hlt)]
    exact T.ones _ (by simp)
  have hfit : off * te.cells + zs.length ≤ vs.length := by
    rw [hzl, hvl, ← hw1, ← Nat.add_mul]; exact Nat.mul_le_mul_right _ (by omega)
  have hst := run_storeCells_at P (β b).blk (off * te.cells) e0 zs 0 vs.toArray w hh (by simpa using hfit) hz1
  simp only [Nat.add_zero] at hst
  refine ⟨_, _, ?_, h.rewrite hb hlv hh (vs' := vs.take (off * te.cells) ++ zs ++ vs.drop (off * te.cells + zs.length)) ?_ hs' hw' (by omega) (fun i hi j hj => ?_), hk⟩
  · obtain ⟨m, rfl⟩ : ∃ m, n = m + 1 := ⟨n - 1, by omega⟩
    simp [Builtin.clear_, run_underlying hu, hz, ← hzs, hst]
  · simp only [List.length_append, List.length_take, List.length_drop]; omega
  · have hio : i < off := by omega
    have hmul : (i + 1) * r.width ≤ off * r.width := Nat.mul_le_mul_right _ (by omega)
    rw [Nat.add_mul] at hmul
    obtain ⟨q, h1, h2, h3⟩ := hcell i (by omega) j hj
    have hq := (List.getElem?_eq_some_iff.1 h1).1
    refine ⟨q, ?_, h2, by rw [hcell' i j (by omega), Nat.zero_add]; exact h3⟩
    rw [List.append_assoc, List.getElem?_append_left (by rw [List.length_take]; rw [hw1]; omega), List.getElem?_take_of_lt (by rw [hw1]; omega)]
    exact h1
theorem getD_mid {α : Type} (l x : List α) (off m i : Nat) (d : α) (h1 : off + m ≤ l.length) (h2 : m ≤ x.length) : (l.take off ++ x.take m ++ l.drop (off + m)).getD i d = if off ≤ i ∧ i < off + m then x.getD (i - off) d else l.getD i d := by
  simp only [List.getD_eq_getElem?_getD]
  by_cases a1 : i < off
  · rw [if_neg (by omega), List.append_assoc, List.getElem?_append_left (by rw [List.length_take]; omega), List.getElem?_take_of_lt a1]
  · by_cases a2 : i < off + m
    · rw [if_pos ⟨by omega, a2⟩, List.append_assoc, List.getElem?_append_right (by rw [List.length_take]; omega), List.length_take, Nat.min_eq_left (by omega), List.getElem?_append_left (by rw [List.length_take]; omega), List.getElem?_take_of_lt (by omega)]
    · rw [if_neg (by omega), List.getElem?_append_right (by simp only [List.length_append, List.length_take]; omega), List.getElem?_drop]
      simp only [List.length_append, List.length_take]
      rw [show off + m + (i - (min off l.length + min m x.length)) = i by omega]
theorem get_mid {α : Type} (l x : List α) (off m i : Nat) (h1 : off + m ≤ l.length) (h2 : m ≤ x.length) : (l.take off ++ x.take m ++ l.drop (off + m))[i]? = if off ≤ i ∧ i < off + m then x[i - off]? else l[i]? := by
  by_cases a1 : i < off
  · rw [if_neg (by omega), List.append_assoc, List.getElem?_append_left (by rw [List.length_take]; omega), List.getElem?_take_of_lt a1]
  · by_cases a2 : i < off + m
    · rw [if_pos ⟨by omega, a2⟩, List.append_assoc, List.getElem?_append_right (by rw [List.length_take]; omega), List.length_take, Nat.min_eq_left (by omega), List.getElem?_append_left (by rw [List.length_take]; omega), List.getElem?_take_of_lt (by omega)]
    · rw [if_neg (by omega), List.getElem?_append_right (by simp only [List.length_append, List.length_take]; omega), List.getElem?_drop]
      simp only [List.length_append, List.length_take]
      rw [show off + m + (i - (min off l.length + min m x.length)) = i by omega]
theorem len_mid {α : Type} (l x : List α) (off m : Nat) (h1 : off + m ≤ l.length) (h2 : m ≤ x.length) : (l.take off ++ x.take m ++ l.drop (off + m)).length = l.length := by
  simp only [List.length_append, List.length_take, List.length_drop]; omega
theorem copyDV_ok {r s : DV} {off m : Nat} {K : DV → Prop} (h : copyDV r off m s K) (h1 : off + m ≤ r.len) (h2 : m ≤ s.len) : r.width = s.width ∧ ∃ r', K r' ∧ r'.isSl = true ∧ r'.width = r.width ∧ r'.len = r.len ∧
    ∀ i j, i < r.len → r'.cell i j = if off ≤ i ∧ i < off + m then s.cell (i - off) j else r.cell i j := by
  cases r with
  | ints k l =>
    cases s with
    | ints k' x =>
      obtain ⟨⟨rfl⟩, h⟩ := h
      refine ⟨rfl, _, h, rfl, rfl, len_mid _ _ _ _ h1 h2, fun i j hi => ?_⟩
      simp only [DV.cell]
      rw [getD_mid _ _ _ _ _ _ h1 h2]
      split <;> rfl
    | _ => exact h.elim
  | bools l =>
    cases s with
    | bools x =>
      refine ⟨rfl, _, h, rfl, rfl, len_mid _ _ _ _ h1 h2, fun i j hi => ?_⟩
      simp only [DV.cell]
      rw [getD_mid _ _ _ _ _ _ h1 h2]
      split <;> rfl
    | _ => exact h.elim
  | strs l =>
    cases s with
    | strs x =>
      refine ⟨rfl, _, h, rfl, rfl, len_mid _ _ _ _ h1 h2, fun i j hi => ?_⟩
      simp only [DV.cell]
      rw [getD_mid _ _ _ _ _ _ h1 h2]
      split <;> rfl
    | _ => exact h.elim
  | gen k n el =>
    cases s with
    | gen k' n' el' =>
      obtain ⟨⟨rfl⟩, h⟩ := h
      refine ⟨rfl, _, h, rfl, rfl, rfl, fun i j hi => ?_⟩
      simp only [DV.cell]
      by_cases q : off ≤ i ∧ i < off + m
      · rw [if_pos q, show (Nat.ble off i && Nat.blt i (off + m)) = true from by simp [Nat.ble_eq, Nat.blt_eq, q.1, q.2]]; rfl
      · rw [if_neg q, show (Nat.ble off i && Nat.blt i (off + m)) = false from by
          rw [Bool.eq_false_iff]; intro e; simp only [Bool.and_eq_true, Nat.ble_eq, Nat.blt_eq] at e; exact q e]; rfl
    | _ => exact h.elim
  | _ => cases s <;> exact h.elim
theorem copyGo_ok (h : SRep cx W0 ok0 S0 β0 tm mm β a w) {t t2 e e2 : TypeId} (ty : TypeId) {te : TI} (hu : P.underlying t = some (.slice e)) (T : TIok P e te) (h1 : te.cells = 1) {b off n c : Nat} {r2 : DV} {K : Nat → TM → MM → Prop} (hk : copyGo b off n e r2 tm mm K)
    {v : Value} (hs2 : r2.isSl = true) (hv : ∃ A c, v = .slice A r2.len c ∧ (r2.len = 0 ∨ ∃ ad vs, A = some ad ∧ CellsRep w (okB W0 ok0 S0 mm β w) r2 vs ∧ ∀ m u, vs[m]? = some u → w.cell? (ad.add m) = some u)) :
    ∃ (m : Nat) (w' : World) (mm' : MM), (Builtin.copy_ #[t, t2] ty #[.slice (some ⟨(β b).blk, off, none⟩) n c, v]).run P w = .ok (goInt (m : Int)) w' ∧ SRep cx W0 ok0 S0 β0 tm mm' β a w' ∧ K m tm mm' := by
  unfold copyGo at hk
  rw [getK_eq] at hk
  split at hk
  case h_2 => exact hk.elim
  rename_i e0 r hb
  have hbif : ∀ {q : Bool} {A : Prop}, (bif q then A else False) → q = true ∧ A := fun {q A} h => by
    cases q
    · exact h.elim
    · exact ⟨rfl, h⟩
  obtain ⟨hbb, ⟨hn, hr2, hoff⟩, hk1⟩ := hbif hk
  clear hk
  simp only [Bool.and_eq_true] at hbb
  obtain ⟨q1, q2, q3⟩ := hbb
  obtain rfl := Nat.eq_of_beq_eq_true q1
  have hw1 := Nat.eq_of_beq_eq_true q2
  have hw2 := Nat.eq_of_beq_eq_true q3
  clear q1 q2 q3
  obtain ⟨_, r', hk, hs', hw', hl', hcell'⟩ := copyDV_ok hk1 (by omega) (by omega)
  rw [setK_eq] at hk
  obtain ⟨hlv, hsl, vs, hh, hvl, hcap, hcell⟩ := row_cells h hb (by omega)
  obtain ⟨A, c', rfl, hv⟩ := hv
  obtain ⟨ad, us, rfl, hus, hucell⟩ := hv.resolve_left (by omega)
  have hul : us.length = r2.len := by rw [hus.1, hw2, Nat.mul_one]
  obtain ⟨i0, z0, hi1, hi2, hi3, hi4, hi5⟩ := T.info
  have hone := hus.ones
  have hcl : (us.take (min r2.len n)).length = min r2.len n := by rw [List.length_take]; omega
  have hvl1 : vs.length = (β b).cap := by rw [hvl, hw1, Nat.mul_one]
  have hrun := run_copy_row (P := P) w t t2 ty e0 (β b).blk off n c ad r2.len c' vs.toArray e0 (us.take (min r2.len n)) hu (by rw [hi1]; simp [hi2, h1]) hh hcl
    (fun j x hx => hucell j x (by
      have hj := (List.getElem?_eq_some_iff.1 hx).1
      rw [List.getElem?_take_of_lt (by omega)] at hx; exact hx)) (by rw [hcl]; simp only [List.size_toArray]; omega) (fun x hx => by rw [← one_eq]; exact hone x (List.mem_of_mem_take hx))
  rw [hcl] at hrun
  refine ⟨min r2.len n, _, _, hrun, h.rewrite hb hlv hh (vs' := vs.take off ++ us.take (min r2.len n) ++ vs.drop (off + min r2.len n)) ?_ hs' hw' (by omega) (fun i hi j hj => ?_), hk⟩
  · rw [len_mid _ _ _ _ (by omega) (by omega)]; exact hvl
  · have hj0 : j = 0 := by omega
    subst hj0
    rw [hcell' i 0 (by omega), hw1, Nat.mul_one, Nat.add_zero]
    have hg := get_mid vs us off (min r2.len n) i (by omega) (by omega)
    rw [hg]
    by_cases q : off ≤ i ∧ i < off + min r2.len n
    · rw [if_pos q, if_pos q]
      obtain ⟨z, hz, h1z, hrz⟩ := hus.2 (i - off) (by omega) 0 (by omega)
      rw [hw2, Nat.mul_one, Nat.add_zero] at hz
      exact ⟨z, hz, h1z, hrz⟩
    · rw [if_neg q, if_neg q]
      obtain ⟨z, hz, h1z, hrz⟩ := hcell i (by omega) 0 (by omega)
      rw [hw1, Nat.mul_one, Nat.add_zero] at hz
      exact ⟨z, hz, h1z, hrz⟩
theorem copyGo_pos {b off n : Nat} {e : TypeId} {r2 : DV} {K : Nat → TM → MM → Prop} (hk : copyGo b off n e r2 tm mm K) : 0 < n ∧ r2.isSl = true := by
  unfold copyGo at hk
  rw [getK_eq] at hk
  split at hk
  · rename_i e0 r _
    cases hq : (Nat.beq e0 e && (Nat.beq r.width 1 && Nat.beq r2.width 1)) with
    | false => rw [hq] at hk; exact hk.elim
    | true =>
      rw [hq] at hk
      obtain ⟨⟨hn, hr2, _⟩, _⟩ := hk
      exact ⟨hn, by cases r2 <;> first | rfl | (simp [DV.len] at hr2)⟩
  · exact hk.elim
theorem copyK_ok (h : SRep cx W0 ok0 S0 β0 tm mm β a w) (hc : Cok P cx W0 ok0 S0) {t t2 : TypeId} (ty : TypeId) {d s : AV} {K : Nat → TM → MM → Prop} (hk : copyK cx t t2 d s tm mm K) {u v : Value} (hd : d.rep w (okB W0 ok0 S0 mm β w) β u) (hs : s.rep w (okB W0 ok0 S0 mm β w) β v) :
    ∃ (m : Nat) (w' : World) (mm' : MM), (Builtin.copy_ #[t, t2] ty #[u, v]).run P w = .ok (goInt (m : Int)) w' ∧ SRep cx W0 ok0 S0 β0 tm mm' β a w' ∧ K m tm mm' := by
  unfold copyK at hk
  obtain ⟨e, te, hu, T, hk0⟩ := ewK_ok hc hk
  clear hk
  have hbif : ∀ {q : Bool} {A : Prop}, (bif q then A else False) → q = true ∧ A := fun {q A} h => by
    cases q
    · exact h.elim
    · exact ⟨rfl, h⟩
  obtain ⟨h1, hk2⟩ := hbif hk0
  clear hk0
  have h1 := Nat.eq_of_beq_eq_true h1
  obtain ⟨e2, te2, hu2, T2, hk3⟩ := ewK_ok hc hk2
  clear hk2
  obtain ⟨r2, hk, hv⟩ := asDV_ok h hk3 hs
  clear hk3
  split at hk
  · rename_i b n
    obtain ⟨hpos, hsl⟩ := copyGo_pos hk
    have hd : (β b).own n u := hd
    unfold Ent.own at hd
    split at hd
    · omega
    · obtain ⟨rfl, _⟩ := hd
      exact copyGo_ok (e2 := e2) h ty hu T h1 hk hsl (hv hsl)
  · rename_i b k off n
    obtain ⟨hk1, hk⟩ := hbif hk
    obtain rfl := Nat.eq_of_beq_eq_true hk1
    obtain ⟨hpos, hsl⟩ := copyGo_pos hk
    obtain ⟨A, c, rfl, hnc, hA⟩ := hd
    obtain rfl := hA hpos
    rw [Nat.mul_one]
    exact copyGo_ok (e2 := e2) h ty hu T h1 hk hsl (hv hsl)
  · exact hk.elim
end
end Go.Proofs.YtgdcefohfebleaaDoor.V
/- Every operation. -/
set_option linter.unusedVariables false
set_option linter.unusedSimpArgs false
set_option linter.unusedSectionVars false
namespace Go.Proofs.YtgdcefohfebleaaDoor.V
open Go Go.RowKit

section
variable {P : Program} {cx : Cx} {W0 : World} {ok0 S0 : Nat → Prop} {β0 : Nat → Ent} {tm : TM} {mm : MM} {β : Nat → Ent} {a : Act} {w : World} {o : Oper} {Q : Exit → Act → World → Prop} {K : TM → MM → Prop}

theorem run_enter {g : FuncId} (hf : Fn P g) (args : Array Value) (w : World) : (callFunc g args).run P w = .ok (.enter g args) w := by
  obtain ⟨fn, h1, h2, h3⟩ := hf
  have h2' : fn.name ≠ "runtime.NumGoroutine" := by simpa using h2
  have h3' : fn.body ≠ none := fun e => by rw [e] at h3; cases h3
  simp [callFunc, h1, h2', h3']
theorem goes_call {calm : Bool} {f : Operand} {c : Call} (ho : o.op = .call c) (hcal : c.callee = .value f) {g : FuncId} (hf : Fn P g) {caps vs : List Value} (he : a.eval f = .func (.func g) #[] caps.toArray) (hvs : c.args.toList.map a.eval = vs)
    (h : Calls P g (vs ++ caps).toArray w fun e w' => match e with
      | .returned v => (calm = true → Below w.heap.size w w') ∧ ∃ tm' mm' β', SRep cx W0 ok0 S0 β0 tm' mm' β' (a.put o.dst v) w' ∧ K tm' mm'
      | _ => False) : GoesC P cx W0 ok0 S0 β0 o a w calm Q K := by
  have hr : (execOp a.eval o).run P w = .ok (.enter g (vs ++ caps).toArray) w := by
    have hargs : c.args.map a.eval ++ caps.toArray = (vs ++ caps).toArray := by
      apply Array.ext'
      simp [← hvs]
    simp only [execOp, ho, resolve, hcal, Deferred.ofValue, he]
    simp only [Sem.run_bind, Sem.run_pure, Result.andThen_ok, invoke]
    rw [show (#[] ++ c.args.map a.eval ++ caps.toArray : Array Value) = (vs ++ caps).toArray from by rw [Array.empty_append]; exact hargs]
    exact run_enter hf _ w
  unfold GoesC OpW
  rw [hr]
  refine Calls.mono h fun e w' he => ?_
  cases e with
  | returned v => exact he
  | panicked _ => exact he.elim
  | outgrown => exact he.elim
theorem goes_yield {f : Operand} {c : Call} (ho : o.op = .call c) (hcal : c.callee = .value f) {L : Nat} (he : a.eval f = .func (.yield L) #[] #[]) {x : Value} (hvs : c.args.toList.map a.eval = [x])
    (h : YieldAt Fence.wide 0 P L #[x] w fun e w' => match e with
      | .returned v => ∃ tm' mm' β', SRep cx W0 ok0 S0 β0 tm' mm' β' (a.put o.dst v) w' ∧ K tm' mm'
      | _ => False) : GoesC P cx W0 ok0 S0 β0 o a w false Q K := by
  obtain ⟨fn, tmps, assign, body, hy, hround⟩ := h
  have hr : (execOp a.eval o).run P w = .ok (.round L fn tmps assign body) w := by
    have hargs : c.args.map a.eval = #[x] := by
      apply Array.ext'
      simp [← hvs]
    simp only [execOp, ho, resolve, hcal, Deferred.ofValue, he]
    simp only [Sem.run_bind, Sem.run_pure, Result.andThen_ok, invoke]
    rw [show (#[] ++ c.args.map a.eval : Array Value) = #[x] from by rw [hargs]; rfl]
    exact hy
  unfold GoesC OpW
  rw [hr]
  refine RoundIn.mono hround fun e w' he => ?_
  cases e with
  | returned v => exact ⟨fun h => (by cases h), he⟩
  | panicked _ => exact he.elim
  | outgrown => exact he.elim
theorem viewK_ok (h : SRep cx W0 ok0 S0 β0 tm mm β a w) (hc : Cok P cx W0 ok0 S0) {dst : Option Nat} {C : List AV → (AV → Prop) → Prop} {l : List AV} {vs : List Value} (hl : AV.reps w (okB W0 ok0 S0 mm β w) β l vs)
    (hk : viewK cx dst C l tm mm K) {g : FuncId} (hm : ∀ args K, C args K → Does P cx.gl g args [] fun _ r => K r) :
    Calls P g vs.toArray w fun e w' => match e with
      | .returned v => Below w.heap.size w w' ∧ ∃ tm' mm' β', SRep cx W0 ok0 S0 β0 tm' mm' β' (a.put dst v) w' ∧ K tm' mm'
      | _ => False := by
  unfold viewK at hk
  obtain ⟨ks, hk⟩ := keysLK_ok _ _ _ hk
  obtain ⟨f, gg, hk, hf1, hg2, hfg, n, hf2, hg1⟩ := zipK_ok _ _ hk
  obtain ⟨hnh, hhk⟩ := hks_ok n
  cases hb : nodupB ks with
  | false => simp only [hb, cond_false] at hk
  | true =>
  simp only [hb, cond_true] at hk
  let βc : Nat → Ent := fun k => match rn k gg with
    | some c => β c
    | none => β k
  have hgn : (gg.map Prod.fst).Nodup := by rw [hg1]; exact hnh
  have hβc : ∀ c h, (c, h) ∈ f → βc h = β c := fun c h hm => by
    show (match rn h gg with | some c => β c | none => β h) = β c
    rw [rn_of hgn ((hfg c h).1 hm)]
  have hfh : ∀ c h, (c, h) ∈ f → V.hk ≤ h := fun c h hm => hhk h (by rw [← hf2]; exact List.mem_map.2 ⟨_, hm, rfl⟩)
  obtain ⟨l', hk, hl', _⟩ := rensK_ok (w := w) (ok := okB W0 ok0 S0 mm β w) (β := β) (β' := βc) (fun k c hr => hβc k c (rn_mem hr)) l _ hk
  have hnS : ∀ b, ¬ S0of [] βc b := fun b ⟨k, hk, _⟩ => hk.elim
  let okc := okB W0 ok0 S0 mm β w
  have hokc : ∀ b, okc b → okB w okc (S0of [] βc) [] βc w b := fun b hb => ⟨hb.1, .inr (.inl hb), fun k hlv e => hlv.elim⟩
  have hglob : GlobOk cx.gl w (fun b => okc b ∧ ¬ S0of [] βc b) := by
    intro g' m f' hgl
    obtain ⟨h1, h2, h3, h4⟩ := hc.gl g' m f' hgl
    have hok : okc g' := ⟨Nat.lt_of_lt_of_le h1 h.fr.size, .inr (.inl h2), fun k hk e => by
      rcases (h.ow k hk).2 with h5 | h5
      · rw [e] at h5; exact absurd h1 (Nat.not_lt.2 h5)
      · rw [e] at h5; exact h3 h5⟩
    refine ⟨hok.1, ⟨hok, hnS _⟩, fun j hj => ?_⟩
    obtain ⟨x, e1, e3, e2⟩ := h4 j hj
    refine ⟨x, e1, e3, ?_⟩
    rw [World.cell?_of_block (w := W0) (by rw [show ((⟨g', 0, none⟩ : Addr).add j).block = g' from by unfold Addr.add; split <;> rfl]; exact h.fr.block g' h1 h3)]
    exact e2
  have hms : MS w okc (S0of [] βc) βc [] βc w := ⟨fun k => trivial, fun j k hj => hj.elim, fun k hk => hk.elim, ⟨rfl, rfl, rfl, Nat.le_refl _, fun _ _ _ => rfl⟩, fun _ _ => rfl⟩
  refine Calls.mono (hm l' _ hk w βc okc vs hglob hms (rep_of_subset hokc l' (hl' vs hl))) fun e w' he => ?_
  cases e with
  | panicked _ => exact he.elim
  | outgrown => exact he.elim
  | returned v =>
    obtain ⟨mm', β', r, hk, hms', hr⟩ := he
    have hbel : Below w.heap.size w w' := ⟨hms'.fr.os, hms'.fr.tape, hms'.fr.output, hms'.fr.size, fun b hb => hms'.fr.block b hb (hnS b)⟩
    have h2 := h.below hbel
    obtain ⟨r', hk, hr', _⟩ := renK_ok (w := w') (ok := okB w okc (S0of [] βc) mm' β' w') (β := β') (β' := β) (fun k c hr => by
      have hm := (hfg c k).2 (rn_mem hr)
      rw [hms'.fx k (hfh c k hm), hβc c k hm]) r _ hk
    have hsub : ∀ b, okB w okc (S0of [] βc) mm' β' w' b → okB W0 ok0 S0 mm β w' b := fun b hb => by
      refine ⟨hb.1, ?_, fun k hk e => ?_⟩
      · rcases hb.2.1 with h3 | h3 | h3
        · exact .inl (Nat.le_trans h.fr.size h3)
        · exact h3.2.1
        · exact (hnS _ h3).elim
      · rcases hb.2.1 with h3 | h3 | h3
        · have := (h.ow k hk).1; omega
        · exact h3.2.2 k hk e
        · exact (hnS _ h3).elim
    obtain ⟨tm', h3, hk⟩ := putK_ok h2 hk (v := v) (AV.rep_mono (fun _ _ => rfl) hsub r' (fun _ _ => rfl) (hr' v hr))
    exact ⟨hbel, tm', mm, β, h3, hk⟩
theorem callK_ok (h : SRep cx W0 ok0 S0 β0 tm mm β a w) (hc : Cok P cx W0 ok0 S0) {s : Option SpecE} {g : FuncId} (hs : ∀ s', s = some s' → Meets P cx.gl g s') {l : List AV} {vs : List Value} (hl : AV.reps w (okB W0 ok0 S0 mm β w) β l vs) (hk : callK cx o s l tm mm K) :
    Calls P g vs.toArray w fun e w' => match e with
      | .returned v => (calmS s = true → Below w.heap.size w w') ∧ ∃ tm' mm' β', SRep cx W0 ok0 S0 β0 tm' mm' β' (a.put o.dst v) w' ∧ K tm' mm'
      | _ => False := by
  unfold callK at hk
  split at hk
  · rename_i C
    have hm := hs _ rfl
    obtain ⟨l', hk, hl'⟩ := lendsK_ok h (ok := okB w (fun _ => True) (S0of [] β) [] β w) (β' := β) (fun b hb => ⟨hb, .inr (.inl trivial), fun k hk => hk.elim⟩) l _ hk hl
    have hnS : ∀ b, ¬ S0of [] β b := fun b ⟨k, hk, _⟩ => hk.elim
    have hglob : GlobOk cx.gl w (fun b => (fun _ => True) b ∧ ¬ S0of [] β b) := by
      intro g' m f' hgl
      obtain ⟨h1, h2, h3, h4⟩ := hc.gl g' m f' hgl
      refine ⟨Nat.lt_of_lt_of_le h1 h.fr.size, ⟨trivial, hnS _⟩, fun j hj => ?_⟩
      obtain ⟨x, e1, e3, e2⟩ := h4 j hj
      refine ⟨x, e1, e3, ?_⟩
      rw [World.cell?_of_block (w := W0) (by rw [show ((⟨g', 0, none⟩ : Addr).add j).block = g' from by unfold Addr.add; split <;> rfl]; exact h.fr.block g' h1 h3)]
      exact e2
    have hms : MS w (fun _ => True) (S0of [] β) β [] β w := ⟨fun k => trivial, fun j k hj => hj.elim, fun k hk => hk.elim, ⟨rfl, rfl, rfl, Nat.le_refl _, fun _ _ _ => rfl⟩, fun _ _ => rfl⟩
    refine Calls.mono (hm l' _ hk w β (fun _ => True) vs hglob hms hl') fun e w' he => ?_
    cases e with
    | panicked _ => exact he.elim
    | outgrown => exact he.elim
    | returned v =>
      obtain ⟨mm', β', r, ⟨hsc0, hsc, hput⟩, hms', hr⟩ := he
      have hb : Below w.heap.size w w' := ⟨hms'.fr.os, hms'.fr.tape, hms'.fr.output, hms'.fr.size, fun b hb => hms'.fr.block b hb (hnS b)⟩
      have h2 := h.below hb
      obtain ⟨tm', h3, hk⟩ := putK_ok h2 hput (scal_rep r hsc hr)
      exact ⟨fun _ => hb, tm', mm, β, h3, hk⟩
  · rename_i C
    have hm := hs _ rfl
    obtain ⟨tm1, mm1, l', h1, ho, hl', hk⟩ := frzsA_ok l h hk hl
    refine Calls.mono (heapK_ok h1 hc hl' hk (fun args mm0 K hC => by
      cases mm0 with
      | nil => exact hm args K hC
      | cons x r => exact hC.elim)) fun e w' he => ?_
    cases e with
    | returned v => exact ⟨fun _ => he.1 (fun args mm0 K hC => by
        cases mm0 with
        | nil => rfl
        | cons x r => exact hC.elim), he.2⟩
    | panicked _ => exact he.elim
    | outgrown => exact he.elim
  · rename_i C
    refine Calls.mono (heapK_ok h hc hl hk (hs _ rfl)) fun e w' he => ?_
    cases e with
    | returned v => exact ⟨fun hq => (by cases hq), he.2⟩
    | panicked _ => exact he.elim
    | outgrown => exact he.elim
  · rename_i C
    refine Calls.mono (viewK_ok h hc hl hk (hs _ rfl)) fun e w' he => ?_
    cases e with
    | returned v => exact ⟨fun _ => he.1, he.2⟩
    | panicked _ => exact he.elim
    | outgrown => exact he.elim
  · rename_i C
    obtain ⟨tm1, mm1, l', h1, ho, hl', hk⟩ := frzOs_ok l h hk hl
    refine Calls.mono (heapK_ok h1 hc hl' hk (hs _ rfl)) fun e w' he => ?_
    cases e with
    | returned v => exact ⟨fun hq => (by cases hq), he.2⟩
    | panicked _ => exact he.elim
    | outgrown => exact he.elim
  · exact hk.elim
theorem goes_of {v : Value} {w' : World} (hr : (execOp a.eval o).run P w = .ok (.value v) w') {tm' : TM} {mm' : MM} {β' : Nat → Ent} (h : SRep cx W0 ok0 S0 β0 tm' mm' β' (a.put o.dst v) w') (hk : K tm' mm') : Goes P cx W0 ok0 S0 β0 o a w Q K :=
  goes_val hr ⟨tm', mm', β', h, hk⟩
theorem GoesC.of {c calm : Bool} (h : GoesC P cx W0 ok0 S0 β0 o a w c Q K) (hle : calm = true → c = true) : GoesC P cx W0 ok0 S0 β0 o a w calm Q K :=
  OpW.mono (fun _ _ h => ⟨fun hc => h.1 (hle hc), h.2⟩) h
theorem builtinP_ok (h : SRep cx W0 ok0 S0 β0 tm mm β a w) (hc : Cok P cx W0 ok0 S0) {c : Call} (ho : o.op = .call c) {b : Builtin} (hcal : c.callee = .builtin b) {l : List AV} (hl : AV.reps w (okB W0 ok0 S0 mm β w) β l (c.args.toList.map a.eval))
    (hp : b ≠ .append ∧ b ≠ .clear ∧ b ≠ .copy) (hk : builtinK cx o b c.argTypes.toList l tm mm K) : GoesP P cx W0 ok0 S0 β0 o a w mm β K := by
  have hrun : ∀ {v : Value} {w w' : World}, (builtin b c.argTypes o.type (c.args.map fun | .const _ => true | _ => false) (c.args.map a.eval)).run P w = .ok (.value v) w' → (execOp a.eval o).run P w = .ok (.value v) w' := by
    intro v w w' hr
    simp only [execOp, ho, resolve, hcal]
    simp only [Sem.run_bind, Sem.run_pure, Result.andThen_ok, invoke]
    exact hr
  have hargs : ∀ {us : List Value}, c.args.toList.map a.eval = us → c.args.map a.eval = us.toArray := fun e => by
    apply Array.ext'
    simp [← e]
  have htys : ∀ {ts : List TypeId}, c.argTypes.toList = ts → c.argTypes = ts.toArray := fun e => by rw [← e]
  unfold builtinK at hk
  split at hk
  · split at hk
    · rename_i x
      split at hk
      · rename_i t ht
        obtain ⟨v, rest, e, hx, hrest⟩ := hl
        have hrest : rest = [] := hrest
        subst hrest
        obtain ⟨u, hu, hk⟩ := op_len h hc t o.type (K := fun r => putK cx o.dst r tm fun tm => K tm mm) hk hx
        refine goes_put h (fun w2 _ => hrun ?_) hk rfl
        rw [hargs e, htys ht]
        simp [builtin, hu]
      · exact hk.elim
    · exact hk.elim
  · exact absurd rfl hp.1
  · exact absurd rfl hp.2.1
  · exact absurd rfl hp.2.2
  · split at hk
    · rename_i t ht
      obtain ⟨v, rest, e, hx, hrest⟩ := hl
      have hrest : rest = [] := hrest
      subst hrest
      have hx : v = .slice none 0 0 := hx
      subst hx
      obtain ⟨e2, te, hu, T, hk⟩ := ewK_ok hc hk
      refine goes_put h (fun w2 _ => hrun ?_) hk rfl
      rw [hargs e, htys ht]
      simp [builtin, Builtin.cap_, run_underlying hu, goInt]
    · exact hk.elim
  · split at hk
    · rename_i k x k' y
      obtain ⟨u, rest, e, hs, v, rest2, e2, hx, hrest⟩ := hl
      have hrest : rest2 = [] := hrest
      subst hrest
      subst e2
      have hs : u = _ := hs
      have hx : v = _ := hx
      subst hs hx
      refine goes_put h (fun w2 _ => hrun ?_) hk rfl
      rw [hargs e]
      simp [builtin, Builtin.max_, Builtin.max2]
    · exact hk.elim
  · split at hk
    · rename_i k x k' y
      obtain ⟨u, rest, e, hs, v, rest2, e2, hx, hrest⟩ := hl
      have hrest : rest2 = [] := hrest
      subst hrest
      subst e2
      have hs : u = _ := hs
      have hx : v = _ := hx
      subst hs hx
      refine goes_put h (fun w2 _ => hrun ?_) hk rfl
      rw [hargs e]
      simp [builtin, Builtin.min_, Builtin.min2]
    · exact hk.elim
  · exact hk.elim
theorem builtinK_ok (h : SRep cx W0 ok0 S0 β0 tm mm β a w) (hc : Cok P cx W0 ok0 S0) {c : Call} (ho : o.op = .call c) {b : Builtin} (hcal : c.callee = .builtin b) {l : List AV} (hl : AV.reps w (okB W0 ok0 S0 mm β w) β l (c.args.toList.map a.eval))
    (hk : builtinK cx o b c.argTypes.toList l tm mm K) : GoesC P cx W0 ok0 S0 β0 o a w (pureB o) Q K := by
  by_cases hp : b = .append
  · subst hp
    refine GoesC.of (c := false) (Goes.rough ?_) (by simp [pureB, ho, hcal])
    have hrun : ∀ {v : Value} {w w' : World}, (builtin .append c.argTypes o.type (c.args.map fun | .const _ => true | _ => false) (c.args.map a.eval)).run P w = .ok (.value v) w' → (execOp a.eval o).run P w = .ok (.value v) w' := by
      intro v w w' hr
      simp only [execOp, ho, resolve, hcal]
      simp only [Sem.run_bind, Sem.run_pure, Result.andThen_ok, invoke]
      exact hr
    have hargs : ∀ {us : List Value}, c.args.toList.map a.eval = us → c.args.map a.eval = us.toArray := fun e => by
      apply Array.ext'
      simp [← e]
    have htys : ∀ {ts : List TypeId}, c.argTypes.toList = ts → c.argTypes = ts.toArray := fun e => by rw [← e]
    dsimp only [builtinK] at hk
    · split at hk
      · rename_i t t2 s x ht
        obtain ⟨u, rest, e, hs, v, rest2, e2, hx, hrest⟩ := hl
        have hrest : rest2 = [] := hrest
        subst hrest
        subst e2
        split at hk
        · rename_i kq k
          have hx : v = .int kq k := hx
          subst hx
          obtain ⟨y, w', tm', mm', β', hr, h', hk⟩ := appendZK_ok h hc kq o.type hk hs
          refine goes_of (hrun (v := y) (w' := w') ?_) h' hk
          rw [hargs e, htys ht]
          simp [builtin, hr]
        · obtain ⟨y, w', tm', mm', β', hr, h', hk⟩ := appendK_ok h hc o.type hk hs hx
          refine goes_of (hrun (v := y) (w' := w') ?_) h' hk
          rw [hargs e, htys ht]
          simp [builtin, hr]
      · exact hk.elim
  by_cases hp1 : b = .clear
  · subst hp1
    refine GoesC.of (c := false) (Goes.rough ?_) (by simp [pureB, ho, hcal])
    have hargs : ∀ {us : List Value}, c.args.toList.map a.eval = us → c.args.map a.eval = us.toArray := fun e => by
      apply Array.ext'
      simp [← e]
    have htys : ∀ {ts : List TypeId}, c.argTypes.toList = ts → c.argTypes = ts.toArray := fun e => by rw [← e]
    dsimp only [builtinK] at hk
    split at hk
    · rename_i t s ht
      obtain ⟨u, rest, e, hs, hrest⟩ := hl
      have hrest : rest = [] := hrest
      subst hrest
      split at hk
      · rename_i hd
        obtain ⟨w', mm', hr, h', hk⟩ := clearK_ok h hc o.type hk hs
        refine goes_of (v := .tuple #[]) (w' := w') ?_ (by rw [hd]; exact h') hk
        simp only [execOp, ho, resolve, hcal]
        simp only [Sem.run_bind, Sem.run_pure, Result.andThen_ok, invoke]
        rw [hargs e, htys ht]
        simp [builtin, hr]
      · exact hk.elim
    · exact hk.elim
  by_cases hp2 : b = .copy
  · subst hp2
    refine GoesC.of (c := false) (Goes.rough ?_) (by simp [pureB, ho, hcal])
    have hargs : ∀ {us : List Value}, c.args.toList.map a.eval = us → c.args.map a.eval = us.toArray := fun e => by
      apply Array.ext'
      simp [← e]
    have htys : ∀ {ts : List TypeId}, c.argTypes.toList = ts → c.argTypes = ts.toArray := fun e => by rw [← e]
    dsimp only [builtinK] at hk
    split at hk
    · rename_i t t2 d s ht
      obtain ⟨u, rest, e, hd, v, rest2, e2, hs, hrest⟩ := hl
      have hrest : rest2 = [] := hrest
      subst hrest
      subst e2
      obtain ⟨m, w', mm', hr, h', hk⟩ := copyK_ok h hc o.type hk hd hs
      obtain ⟨tm', h2, hk⟩ := putK_ok h' hk (v := goInt (m : Int)) rfl
      refine goes_of (v := goInt (m : Int)) (w' := w') ?_ h2 hk
      simp only [execOp, ho, resolve, hcal]
      simp only [Sem.run_bind, Sem.run_pure, Result.andThen_ok, invoke]
      rw [hargs e, htys ht]
      simp [builtin, hr]
    · exact hk.elim
  · exact (builtinP_ok h hc ho hcal hl ⟨hp, hp1, hp2⟩ hk).calm
theorem opK_ok (h : SRep cx W0 ok0 S0 β0 tm mm β a w) (hc : Cok P cx W0 ok0 S0) (hs : Sok P cx) (hk : opK cx o tm mm K) : GoesC P cx W0 ok0 S0 β0 o a w (calmB cx o) Q K := by
  unfold opK at hk
  split at hk
  · rename_i x ho; exact (op_move h hc x ho hk).calm
  · rename_i x ho; exact (op_assign h hc x ho hk).calm
  · rename_i c x y ho; exact (op_pick h hc c x y ho hk).calm
  · rename_i t ho; exact (op_alloc h hc t ho hk).of (fun _ => rfl)
  · rename_i t x ho; exact (op_box h hc t x ho hk).of (fun _ => rfl)
  · rename_i t ps ho; exact (op_build h hc t ps ho hk).calm
  · rename_i t n ps ho
    obtain ⟨v, w', tm', mm', β', hr, hb, h', hk⟩ := buildSliceK_ok h hc hk
    refine goesC_val (v := v) (w' := w') ?_ (fun _ => hb) ⟨_, _, _, h', hk⟩
    simp only [execOp, ho]
    rw [Sem.run_bind, hr]
    rfl
  · rename_i t p ho; exact (op_load h hc t p ho hk).calm
  · rename_i t p x ho; exact (op_store h hc t p x ho hk).rough.of (by simp [calmB, pureB, ho])
  · rename_i x ho; exact (op_nilCheck h hc x ho hk).calm
  · rename_i op t x y yt ho; exact (op_binOp h hc op t yt x y ho hk).calm
  · rename_i op t x ho; exact (op_unOp h hc op t x ho hk).calm
  · rename_i s t x ho; exact (op_convert h hc s t x ho hk).calm
  · rename_i fn first caps ho
    split at hk
    · rename_i g
      split at hk
      · rename_i hf
        have hf : first = #[] := Array.ext' hf
        subst hf
        exact (op_makeFunc h hc g caps ho hk).calm
      · exact hk.elim
    · exact hk.elim
  · rename_i t l c ho
    obtain ⟨x', hx, hk⟩ := evK_ok h hc l _ hk
    obtain ⟨kl, n, rfl, hk⟩ := intK_ok hk
    obtain ⟨y', hy, hk⟩ := evK_ok h hc c _ hk
    obtain ⟨kc, n', rfl, hk⟩ := intK_ok hk
    have hx : a.eval l = .int kl n := hx
    have hy : a.eval c = .int kc n' := hy
    obtain ⟨v, w', tm', mm', β', hr, hb, h', hk⟩ := makeSliceK_ok (kl := kl) (kc := kc) h hc hk
    refine goesC_val (v := v) (w' := w') ?_ (fun _ => hb) ⟨_, _, _, h', hk⟩
    simp only [execOp, ho, hx, hy]
    rw [Sem.run_bind, hr]
    rfl
  · rename_i t x lo hi mx ho; exact (op_slice h hc t x lo hi mx ho hk).calm
  · rename_i t x j ho; exact (op_fieldAddr h hc t x j ho hk).calm
  · rename_i t x j ho; exact (op_field h hc t x j ho hk).calm
  · rename_i t x i ho; exact (op_indexAddr h hc t x i ho hk).calm
  · rename_i t x i ho; exact (op_index h hc t x i ho hk).calm
  · rename_i x j ho; exact (op_extract h hc x j ho hk).calm
  · rename_i c ho
    obtain ⟨l, hl, hk⟩ := evsK_ok h hc _ _ hk
    split at hk
    · rename_i b hcal; exact (builtinK_ok h hc ho hcal hl hk).of (by simp [calmB, ho, hcal])
    · rename_i f hcal
      have known : ∀ g caps, (appAV l caps fun l => callK cx o (cx.sp g) l tm mm K) → ∀ cs, a.eval f = .func (.func g) #[] cs.toArray → AV.reps w (okB W0 ok0 S0 mm β w) β caps cs → GoesC P cx W0 ok0 S0 β0 o a w (calmS (cx.sp g)) Q K := by
        intro g caps hk cs he hcs
        obtain ⟨l', hk, hl'⟩ := appAV_ok l caps hk hl hcs
        have hfn : Fn P g := by
          cases hq : cx.sp g with
          | none => rw [hq] at hk; exact hk.elim
          | some s => exact (hs.sp g s hq).1
        exact goes_call ho hcal hfn he rfl (callK_ok h hc (fun s' e => (hs.sp g s' e).2) hl' hk)
      have bifc : ∀ {b : Bool} {A : Prop}, (bif b then A else False) → b = true ∧ A := fun {b A} h => by
        cases b
        · exact h.elim
        · exact ⟨rfl, h⟩
      by_cases hfun : ∃ g, f = .func g
      · obtain ⟨g, rfl⟩ := hfun
        exact (known g [] (bifc hk).2 [] rfl rfl).of (by simp [calmB, ho, hcal])
      have hcl : calmB cx o = claims cx o := by
        simp only [calmB, ho, hcal]
        split
        · exact absurd ⟨_, rfl⟩ hfun
        · rfl
      obtain ⟨x', hx, hk⟩ := evK_ok h hc f _ hk
      have hx := normA_rep x' hx
      revert hx hk
      generalize normA x' = x'
      intro hk hx
      split at hk
      · rename_i g caps
        obtain ⟨hcm, hk⟩ := bifc hk
        obtain ⟨cs, he, hcs⟩ := hx
        refine (known g caps hk cs he hcs).of (fun h => ?_)
        rw [hcl] at h
        rw [h] at hcm
        exact hcm
      · rename_i i g caps
        split at hk
        · rename_i g' s hq
          obtain ⟨hcm, hk⟩ := bifc hk
          obtain ⟨⟨rfl⟩, hk3⟩ := hk
          obtain ⟨cs, he, hcs⟩ := hx
          obtain ⟨l', hk, hl'⟩ := appAV_ok l caps hk3 hl hcs
          refine (goes_call (calm := calmS (some s)) ho hcal (hs.fs i _ s hq).1 he rfl (callK_ok h hc (fun s' e => by cases e; exact (hs.fs i _ _ hq).2) hl' hk)).of (fun h => ?_)
          rw [hcl] at h
          rw [h] at hcm
          exact hcm
        · exact hk.elim
      · rename_i k T caps
        split at hk
        · rename_i C hq
          obtain ⟨hcm, hk⟩ := bifc hk
          split at hk
          · rename_i y
            obtain ⟨he, hT⟩ := hx
            obtain ⟨tm1, mm1, l1, h1, ho1, hl, hk⟩ := frzOs_ok _ h hk hl
            have hT := AV.reps_mono (fun _ _ => rfl) ho1 _ (fun _ _ => rfl) hT
            split at hk
            case h_2 => exact hk.elim
            rename_i y1
            obtain ⟨v, rest, hvs, hv, hrest⟩ := hl
            have hrest : rest = [] := hrest
            subst hrest
            obtain ⟨βc, okc, l', m0, Kc, hC, hglob, hms, hl', hend⟩ := heapK_pre (l := [.yl k T caps, y1]) (vs := [.func (.yield (β k).blk) #[] #[], v]) h1 hc ⟨_, _, rfl, ⟨rfl, hT⟩, v, [], rfl, hv, rfl⟩ hk
            refine (goes_yield ho hcal he hvs ?_).of (fun h => by rw [hcl] at h; rw [h] at hcm; cases hcm)
            obtain ⟨fn, tmps, assign, body, hy, hround⟩ := hs.ys C hq l' m0 Kc hC w βc okc (β k).blk v hglob hms hl'
            refine ⟨fn, tmps, assign, body, hy, RoundIn.mono hround fun e w' he => ?_⟩
            cases e with
            | returned v =>
              obtain ⟨mm', β', r, hpost, hms', hr⟩ := he
              obtain ⟨_, tm', mm', β', _, h2⟩ := hend w' v mm' β' r hpost hms' hr
              exact ⟨tm', mm', β', h2⟩
            | panicked _ => exact he.elim
            | outgrown => exact he.elim
          · exact hk.elim
        · exact hk.elim
      · exact hk.elim
    · exact hk.elim
  · exact hk.elim
theorem GoesC.goes {calm : Bool} (h : GoesC P cx W0 ok0 S0 β0 o a w calm Q K) : Goes P cx W0 ok0 S0 β0 o a w Q K := OpW.mono (fun _ _ h => h.2) h
theorem pure_ok (h : SRep cx W0 ok0 S0 β0 tm mm β a w) (hc : Cok P cx W0 ok0 S0) (hp : pureB o = true) (hk : opK cx o tm mm K) : GoesP P cx W0 ok0 S0 β0 o a w mm β K := by
  unfold opK at hk
  split at hk
  · rename_i x ho; exact op_move h hc x ho hk
  · rename_i x ho; exact op_assign h hc x ho hk
  · rename_i c x y ho; exact op_pick h hc c x y ho hk
  · rename_i t ho; simp [pureB, ho] at hp
  · rename_i t x ho; simp [pureB, ho] at hp
  · rename_i t ps ho; exact op_build h hc t ps ho hk
  · rename_i t n ps ho; simp [pureB, ho] at hp
  · rename_i t p ho; exact op_load h hc t p ho hk
  · rename_i t p x ho; simp [pureB, ho] at hp
  · rename_i x ho; exact op_nilCheck h hc x ho hk
  · rename_i op t x y yt ho; exact op_binOp h hc op t yt x y ho hk
  · rename_i op t x ho; exact op_unOp h hc op t x ho hk
  · rename_i s t x ho; exact op_convert h hc s t x ho hk
  · rename_i fn first caps ho
    split at hk
    · rename_i g
      split at hk
      · rename_i hf
        have hf : first = #[] := Array.ext' hf
        subst hf
        exact op_makeFunc h hc g caps ho hk
      · exact hk.elim
    · exact hk.elim
  · rename_i t l c ho; simp [pureB, ho] at hp
  · rename_i t x lo hi mx ho; exact op_slice h hc t x lo hi mx ho hk
  · rename_i t x j ho; exact op_fieldAddr h hc t x j ho hk
  · rename_i t x j ho; exact op_field h hc t x j ho hk
  · rename_i t x i ho; exact op_indexAddr h hc t x i ho hk
  · rename_i t x i ho; exact op_index h hc t x i ho hk
  · rename_i x j ho; exact op_extract h hc x j ho hk
  · rename_i c ho
    obtain ⟨l, hl, hk⟩ := evsK_ok h hc _ _ hk
    split at hk
    · rename_i b hcal
      exact builtinP_ok h hc ho hcal hl ⟨fun e => (by subst e; simp [pureB, ho, hcal] at hp), fun e => (by subst e; simp [pureB, ho, hcal] at hp), fun e => (by subst e; simp [pureB, ho, hcal] at hp)⟩ hk
    · rename_i f hcal; simp [pureB, ho, hcal] at hp
    · exact hk.elim
  · exact hk.elim
end
end Go.Proofs.YtgdcefohfebleaaDoor.V
/- Loops: what a relation of slots and blocks says. -/
set_option linter.unusedVariables false
set_option linter.unusedSimpArgs false
set_option linter.unusedSectionVars false
namespace Go.Proofs.YtgdcefohfebleaaDoor.V
open Go Go.RowKit

section
variable {w : World} {ok : Nat → Prop} {β : Nat → Ent}
theorem dvEq_same {r r' : DV} (h : dvEq r r') : r.isSl = r'.isSl ∧ (r.isSl = true → r.width = r'.width ∧ r.len = r'.len ∧ ∀ i j, i < r.len → j < r.width → r.cell i j = r'.cell i j) ∧ (r.isSl = false → r = r') := by
  unfold dvEq at h
  split at h
  · obtain ⟨⟨rfl⟩, ⟨rfl⟩⟩ := h; exact ⟨rfl, fun _ => ⟨rfl, rfl, fun _ _ _ _ => rfl⟩, fun h => by cases h⟩
  · obtain ⟨rfl⟩ := h; exact ⟨rfl, fun _ => ⟨rfl, rfl, fun _ _ _ _ => rfl⟩, fun h => by cases h⟩
  · obtain ⟨rfl⟩ := h; exact ⟨rfl, fun _ => ⟨rfl, rfl, fun _ _ _ _ => rfl⟩, fun h => by cases h⟩
  · obtain ⟨⟨rfl⟩, ⟨rfl⟩, ⟨h⟩⟩ := h; exact ⟨rfl, fun _ => ⟨rfl, rfl, h⟩, fun h => by cases h⟩
  · obtain ⟨⟨rfl⟩, ⟨rfl⟩⟩ := h; exact ⟨rfl, fun h => (by cases h), fun _ => rfl⟩
  · obtain ⟨rfl⟩ := h; exact ⟨rfl, fun _ => ⟨rfl, rfl, fun _ _ _ _ => rfl⟩, fun _ => rfl⟩
theorem dvEq_rep {r r' : DV} (h : dvEq r r') {v : Value} (hr : r.rep w ok v) : r'.rep w ok v := by
  obtain ⟨h1, h2, h3⟩ := dvEq_same h
  cases hs : r.isSl with
  | false => rw [← h3 hs]; exact hr
  | true =>
    obtain ⟨h4, h5, h6⟩ := h2 hs
    rw [hs] at h1
    obtain ⟨A, c, rfl, hc, hcell⟩ := (DV.rep_sl hs v).1 hr
    refine (DV.rep_sl h1.symm _).2 ⟨A, c, by rw [h5], by omega, fun hpos => ?_⟩
    obtain ⟨ad, rfl, hok, hcell⟩ := hcell (by omega)
    refine ⟨ad, rfl, hok, fun i hi j hj => ?_⟩
    obtain ⟨u, hu, h7, h8⟩ := hcell i (by omega) j (by omega)
    exact ⟨u, by rw [← h4]; exact hu, h7, by show DV.rep _ _ _ _; rw [← h6 i j (by omega) (by omega)]; exact h8⟩
theorem avEq_rep {x y : AV} (h : avEq x y) {v : Value} (hr : x.rep w ok β v) : y.rep w ok β v := by
  unfold avEq at h
  split at h
  · exact dvEq_rep h hr
  · trivial
  · obtain ⟨rfl⟩ := h; exact hr
/-- One may be told in place of the other. -/
def Told (w : World) (β : Nat → Ent) (k : Nat) (x y : ABlk) : Prop := y = .gone ∨ ((∀ ok, BlkRep w ok β k x → BlkRep w ok β k y) ∧ (y.lives (β k) → x.lives (β k)))
theorem Told.rfl' (k : Nat) (x : ABlk) : Told w β k x x := .inr ⟨fun _ h => h, fun h => h⟩
theorem blkEq_told {x y : ABlk} (h : blkEq x y) (k : Nat) : Told w β k x y := by
  unfold blkEq at h
  split at h
  · obtain ⟨⟨rfl⟩, h⟩ := h
    obtain ⟨h1, h2, h3⟩ := dvEq_same h
    refine .inr ⟨fun ok hb => ?_, fun h => h⟩
    obtain ⟨hs, hb⟩ := hb
    obtain ⟨h4, h5, h6⟩ := h2 hs
    refine ⟨by rw [← h1]; exact hs, ?_⟩
    split
    · rename_i hn; rw [if_pos hn] at hb; omega
    · rename_i hn
      rw [if_neg hn] at hb
      obtain ⟨vs, q1, q2, q3, q4⟩ := hb
      refine ⟨vs, q1, by rw [← h4]; exact q2, by omega, fun i hi j hj => ?_⟩
      obtain ⟨u, hu, h7, h8⟩ := q4 i (by omega) j (by omega)
      exact ⟨u, by rw [← h4]; exact hu, h7, by rw [← h6 i j (by omega) (by omega)]; exact h8⟩
  · obtain ⟨rfl⟩ := h; exact Told.rfl' k _
end

section
variable {P : Program} {cx : Cx} {W0 : World} {ok0 S0 : Nat → Prop} {β0 : Nat → Ent} {tm : TM} {mm : MM} {β : Nat → Ent} {a : Act} {w : World} {o : Oper} {Q : Exit → Act → World → Prop} {K : TM → MM → Prop}
/-- The same state, told otherwise. -/
theorem SRep.to (h : SRep cx W0 ok0 S0 β0 tm mm β a w) {tm2 : TM} {mm2 : MM} (ht : ∀ (ok : Nat → Prop) t v, (lkT t tm).rep w ok β v → (lkT t tm2).rep w ok β v) (hm : ∀ k, Told w β k (lkM k mm) (lkM k mm2)) :
    SRep cx W0 ok0 S0 β0 tm2 mm2 β a w := by
  have hlv : ∀ k, live mm2 β k → live mm β k := fun k hk => by
    unfold live at hk ⊢
    rcases hm k with e | ⟨_, h2⟩
    · rw [e] at hk; exact hk.elim
    · exact h2 hk
  have hok : ∀ b, okB W0 ok0 S0 mm β w b → okB W0 ok0 S0 mm2 β w b := fun b hb => ⟨hb.1, hb.2.1, fun k hk => hb.2.2 k (hlv k hk)⟩
  exact {
    nt := h.nt
    df := h.df
    tm := fun t => AV.rep_mono (fun _ _ => rfl) hok _ (fun _ _ => rfl) (ht _ t _ (h.tm t))
    me := fun k => by
      rcases hm k with e | ⟨h1, h2⟩
      · rw [e]; trivial
      · exact BlkRep.mono _ (h1 _ (h.me k)) (fun _ _ => rfl) hok rfl (fun _ => rfl) (fun _ _ _ _ => rfl)
    inj := fun j k hj hk => h.inj j k (hlv j hj) (hlv k hk)
    ow := fun k hk => h.ow k (hlv k hk)
    fr := h.fr
    fx := h.fx }

theorem appT_eq : ∀ (l m : TM) (K : TM → Prop), appT l m K = K (l ++ m)
  | [], m, K => rfl
  | x :: l, m, K => by simp only [appT, appT_eq l m]; rfl
theorem lkT_app (t : Nat) (r : TM) : ∀ l : TM, (∃ a, (t, a) ∈ l ∧ lkT t (l ++ r) = a) ∨ lkT t (l ++ r) = lkT t r
  | [] => .inr rfl
  | (u, a) :: l => by
    simp only [List.cons_append, lkT]
    by_cases e : t = u
    · subst e; exact .inl ⟨a, by simp, by simp⟩
    · rw [beq_ne e]
      rcases lkT_app t r l with ⟨b, h1, h2⟩ | h
      · exact .inl ⟨b, List.mem_cons_of_mem _ h1, h2⟩
      · exact .inr h
theorem matchT_mem : ∀ (l : TM) {tm : TM}, matchT l tm → ∀ t a, (t, a) ∈ l → avEq (lkT t tm) a
  | [], _, _, t, a, hm => by cases hm
  | (u, b) :: l, tm, h, t, a, hm => by
    obtain ⟨h1, h2⟩ := h
    rw [lkK_eq] at h1
    rcases List.mem_cons.1 hm with e | e
    · cases e; exact h1
    · exact matchT_mem l h2 t a e
def havoc : List Nat → TM → TM
  | _, [] => []
  | ds, (t, a) :: r => bif inL t ds then havoc ds r else (t, a) :: havoc (t :: ds) r
theorem havocK_eq : ∀ (tm : TM) (ds : List Nat) (K : TM → Prop), havocK ds tm K = K (havoc ds tm)
  | [], ds, K => rfl
  | (t, a) :: r, ds, K => by
    simp only [havocK, havoc]
    cases inL t ds
    · simp only [cond_false, havocK_eq r]
    · simp only [cond_true, havocK_eq r]
theorem lkT_havoc : ∀ (tm : TM) (ds : List Nat) (t : Nat), lkT t (havoc ds tm) = .top ∨ lkT t (havoc ds tm) = lkT t tm
  | [], ds, t => .inl rfl
  | (u, a) :: r, ds, t => by
    have aux : ∀ (r : TM) (ds : List Nat), inL t ds = true → lkT t (havoc ds r) = .top := by
      intro r
      induction r with
      | nil => exact fun _ _ => rfl
      | cons x r ih =>
        obtain ⟨u, a⟩ := x
        intro ds hd
        simp only [havoc]
        cases hi : inL u ds with
        | true => exact ih ds hd
        | false =>
          simp only [cond_false, lkT]
          rw [beq_ne (fun e => by subst e; rw [hd] at hi; cases hi)]
          exact ih _ (by simp only [inL, hd]; cases Nat.beq t u <;> rfl)
    simp only [havoc]
    cases hi : inL u ds with
    | true =>
      simp only [cond_true]
      by_cases e : t = u
      · subst e; exact .inl (aux r ds hi)
      · rcases lkT_havoc r ds t with h | h
        · exact .inl h
        · right; rw [h]; simp only [lkT, beq_ne e]; rfl
    | false =>
      simp only [cond_false, lkT]
      by_cases e : t = u
      · subst e; right; simp
      · rw [beq_ne e]
        exact lkT_havoc r (u :: ds) t
theorem gatherT_ok : ∀ (l : TM) {tm : TM} {K : List AV → List AV → Prop}, gatherT l tm K → ∃ x y, K x y ∧ (x = y → ∀ t, lkT t l = .top ∨ lkT t tm = lkT t l)
  | [], tm, K, h => ⟨[], [], h, fun _ t => .inl rfl⟩
  | (u, a) :: r, tm, K, h => by
    simp only [gatherT, lkK_eq] at h
    obtain ⟨x, y, hk, hxy⟩ := gatherT_ok r h
    refine ⟨_, _, hk, fun e t => ?_⟩
    cases e
    simp only [lkT]
    by_cases e : t = u
    · subst e; right; simp
    · rw [beq_ne e]; exact hxy rfl t
theorem gatherM_ok : ∀ (l : MM) (ds : List Nat) {mm : MM} {K : List ABlk → List ABlk → Prop}, gatherM ds l mm K → ∃ x y, K x y ∧ (x = y → ∀ k, inL k ds = true ∨ lkM k l = .gone ∨ lkM k mm = lkM k l)
  | [], ds, mm, K, h => ⟨[], [], h, fun _ t => .inr (.inl rfl)⟩
  | (u, a) :: r, ds, mm, K, h => by
    simp only [gatherM, getK_eq] at h
    cases hi : inL u ds with
    | true =>
      simp only [hi, cond_true] at h
      obtain ⟨x, y, hk, hxy⟩ := gatherM_ok r ds h
      refine ⟨_, _, hk, fun e k => ?_⟩
      by_cases e' : k = u
      · subst e'; exact .inl hi
      · rcases hxy e k with h1 | h1 | h1
        · exact .inl h1
        · right; left; simp only [lkM, beq_ne e']; exact h1
        · right; right; simp only [lkM, beq_ne e']; exact h1
    | false =>
      simp only [hi, cond_false] at h
      obtain ⟨x, y, hk, hxy⟩ := gatherM_ok r (u :: ds) h
      refine ⟨_, _, hk, fun e k => ?_⟩
      cases e
      by_cases e' : k = u
      · subst e'; right; right; simp [lkM]
      · rcases hxy rfl k with h1 | h1 | h1
        · left; simpa only [inL, beq_ne e', cond_false] using h1
        · right; left; simp only [lkM, beq_ne e']; exact h1
        · right; right; simp only [lkM, beq_ne e']; exact h1
def updMM : MM → MM → MM
  | [], mm => mm
  | (b, x) :: r, mm => setM b x (updMM r mm)
theorem updM_eq : ∀ (l mm : MM) (K : MM → Prop), updM l mm K = K (updMM l mm)
  | [], mm, K => rfl
  | (b, x) :: r, mm, K => by simp only [updM, updM_eq r, setK_eq, updMM]
theorem lkM_upd (k : Nat) (mm : MM) : ∀ l : MM, (∃ x, (k, x) ∈ l ∧ lkM k (updMM l mm) = x) ∨ (k ∉ keys l ∧ lkM k (updMM l mm) = lkM k mm)
  | [] => .inr ⟨by simp [keys], rfl⟩
  | (b, x) :: r => by
    simp only [updMM, lkM_set, keys]
    by_cases e : k = b
    · subst e; exact .inl ⟨x, by simp, by simp⟩
    · rw [if_neg e]
      rcases lkM_upd k mm r with ⟨y, h1, h2⟩ | ⟨h1, h2⟩
      · exact .inl ⟨y, List.mem_cons_of_mem _ h1, h2⟩
      · exact .inr ⟨by simp [e, h1], h2⟩
theorem matchM_mem : ∀ (l : MM) {mm : MM}, matchM l mm → ∀ k x, (k, x) ∈ l → blkEq (lkM k mm) x
  | [], _, _, t, a, hm => by cases hm
  | (u, b) :: l, mm, h, t, a, hm => by
    obtain ⟨h1, h2⟩ := h
    rw [getK_eq] at h1
    rcases List.mem_cons.1 hm with e | e
    · cases e; exact h1
    · exact matchM_mem l h2 t a e
/-- At a loop's head. -/
theorem SRep.head (h : SRep cx W0 ok0 S0 β0 tm mm β a w) {vars tmh : TM} {mem mm0 : MM} (hv : matchT vars tm) (hmem : matchM mem mm) (ht : ∀ t, lkT t tmh = .top ∨ lkT t tm = lkT t tmh) (hm : ∀ k, k ∈ keys mem ∨ lkM k mm0 = .gone ∨ lkM k mm = lkM k mm0) :
    SRep cx W0 ok0 S0 β0 (vars ++ tmh) (updMM mem mm0) β a w := by
  refine h.to (fun ok t v hr => ?_) (fun k => ?_)
  · rcases lkT_app t tmh vars with ⟨x, h1, h2⟩ | h2
    · rw [h2]; exact avEq_rep (matchT_mem _ hv t x h1) hr
    · rw [h2]
      rcases ht t with h3 | h3
      · rw [h3]; trivial
      · rw [← h3]; exact hr
  · rcases lkM_upd k mm0 mem with ⟨x, h1, h2⟩ | ⟨h1, h2⟩
    · rw [h2]; exact blkEq_told (matchM_mem _ hmem k x h1) k
    · rw [h2]
      rcases hm k with h3 | h3 | h3
      · exact absurd h3 h1
      · exact .inl h3
      · rw [h3]; exact Told.rfl' k _
theorem nilsK_ok : ∀ (l : List (Nat × Nat × TypeId × DV)) {tm : TM} {mm : MM} {β : Nat → Ent} (h : SRep cx W0 ok0 S0 β0 tm mm β a w) {K : TM → MM → Prop}, nilsK l tm mm K → ∃ tm' mm' β', SRep cx W0 ok0 S0 β0 tm' mm' β' a w ∧ K tm' mm'
  | [], tm, mm, β, h, K, hk => ⟨tm, mm, β, h, hk⟩
  | (t, b, e, r) :: l, tm, mm, β, h, K, hk => by
    simp only [nilsK, lkK_eq, killT_eq, killM_eq] at hk
    obtain ⟨⟨hn, hl, hs, hbk⟩, hk⟩ := hk
    obtain ⟨β', h1, h2⟩ := h.empty (d := b) hbk e r hs hl
    have h3 : a.tmps.getD t undef = .slice none 0 0 := by have := h.tm t; rw [hn] at this; exact this
    refine nilsK_ok l (h2.retell (tm' := (t, .own b 0) :: killTM b tm) fun t' => ?_) hk
    simp only [lkT]
    by_cases e : t' = t
    · subst e
      simp only [beq_self, cond_true]
      show Ent.own _ _ _
      unfold Ent.own
      rw [if_pos h1]
      exact ⟨rfl, none, h3⟩
    · rw [beq_ne e]; exact h2.tm t'
theorem SRep.rebox (h : SRep cx W0 ok0 S0 β0 tm mm β a w) {c : Nat} {cs cs' : List AV} (hc : lkM c mm = .box cs) (hr : ∀ ok vs, AV.reps w ok β cs vs → AV.reps w ok β cs' vs) :
    SRep cx W0 ok0 S0 β0 tm (setM c (.box cs') mm) β a w := by
  have hlk : ∀ k, lkM k (setM c (.box cs') mm) = if k = c then .box cs' else lkM k mm := fun k => by
    rw [lkM_set]
  have hlv : ∀ k, live (setM c (.box cs') mm) β k = live mm β k := fun k => by
    unfold live; rw [hlk]
    by_cases e : k = c
    · subst e; rw [if_pos rfl, hc]; rfl
    · rw [if_neg e]
  have ho : okB W0 ok0 S0 (setM c (.box cs') mm) β w = okB W0 ok0 S0 mm β w := by funext b; unfold okB; simp only [hlv]
  refine ⟨h.nt, h.df, fun t => by rw [ho]; exact h.tm t, fun k => ?_, fun j k hj hk => ?_, fun k hk => ?_, h.fr, h.fx⟩
  · rw [ho, hlk]
    by_cases e : k = c
    · subst e
      rw [if_pos rfl]
      have hm := h.me k
      rw [hc] at hm
      obtain ⟨vs, e, h1, h2, h3⟩ := hm
      exact ⟨vs, e, h1, hr _ vs h2, h3⟩
    · rw [if_neg e]; exact h.me k
  · rw [hlv] at hj hk; exact h.inj j k hj hk
  · rw [hlv] at hk; exact h.ow k hk
theorem nilCell_ok {x : AV} {β : Nat → Ent} (hx : ∀ ok, x.rep w ok β (.slice none 0 0)) : ∀ (j : Nat) (cs : List AV) {K : List AV → Prop}, nilCell x j cs K → ∃ cs', K cs' ∧ ∀ ok vs, AV.reps w ok β cs vs → AV.reps w ok β cs' vs
  | 0, a :: r, K, h => by
    obtain ⟨⟨rfl⟩, hk⟩ := h
    refine ⟨_, hk, fun ok vs ⟨v, rest, e, h1, h2⟩ => ⟨v, rest, e, ?_, h2⟩⟩
    have h1 : v = .slice none 0 0 := h1
    rw [h1]; exact hx ok
  | j + 1, a :: r, K, h => by
    obtain ⟨cs', hk, hr⟩ := nilCell_ok hx j r h
    exact ⟨_, hk, fun ok vs ⟨v, rest, e, h1, h2⟩ => ⟨v, rest, e, h1, hr ok rest h2⟩⟩
  | 0, [], K, h => h.elim
  | _ + 1, [], K, h => h.elim
theorem bnilsK_ok : ∀ (l : List (Nat × Nat × Nat × TypeId × DV)) {tm : TM} {mm : MM} {β : Nat → Ent} (h : SRep cx W0 ok0 S0 β0 tm mm β a w) {K : TM → MM → Prop}, bnilsK l tm mm K → ∃ tm' mm' β', SRep cx W0 ok0 S0 β0 tm' mm' β' a w ∧ K tm' mm'
  | [], tm, mm, β, h, K, hk => ⟨tm, mm, β, h, hk⟩
  | (c, j, b, e, r) :: l, tm, mm, β, h, K, hk => by
    simp only [bnilsK, killT_eq, killM_eq, getK_eq, setK_eq] at hk
    obtain ⟨⟨hl, hs, hbk⟩, hk⟩ := hk
    obtain ⟨β', h1, h2⟩ := h.empty (d := b) hbk e r hs hl
    split at hk
    · rename_i cs hcs
      cases hcb : Nat.beq c b with
      | true => rw [hcb] at hk; exact hk.elim
      | false =>
      rw [hcb] at hk
      simp only [cond_false] at hk
      have hx : ∀ ok, AV.rep w ok β' (.own b 0) (.slice none 0 0) := fun ok => by
        show Ent.own _ _ _
        unfold Ent.own
        rw [if_pos h1]
        exact ⟨rfl, none, rfl⟩
      obtain ⟨cs', hk, hr⟩ := nilCell_ok hx j cs hk
      refine bnilsK_ok l (h2.rebox (c := c) (cs := cs) ?_ hr) hk
      simp only [lkM, hcb, cond_false]
      exact hcs
    · exact hk.elim
end
end Go.Proofs.YtgdcefohfebleaaDoor.V
