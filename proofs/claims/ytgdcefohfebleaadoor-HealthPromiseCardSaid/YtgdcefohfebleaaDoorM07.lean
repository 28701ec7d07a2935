/-
  Proved here, step by step for the theorem UW: Regions, code, functions: what vc shows.; A function does what vcF shows.
  Conditions: those that stand in each theorem.
-/
import Derived.Scope
import Derived.OrdersIn
import Derived.RangeFuncRecord
import Derived.Test.YtgdcefohfebleaaDoorM06
/- Regions, code, functions: what vc shows. -/
set_option linter.unusedVariables false
set_option linter.unusedSimpArgs false
set_option linter.unusedSectionVars false
namespace Go.Proofs.YtgdcefohfebleaaDoor.V
open Go Go.RowKit

section
variable {P : Program} {cx : Cx} {W0 : World} {ok0 S0 : Nat → Prop} {β0 : Nat → Ent} {tm : TM} {mm : MM} {β : Nat → Ent} {a : Act} {w : World} {o : Oper} {Q : Exit → Act → World → Prop} {K : TM → MM → Prop}

/-- One operation of a region. -/
def wpOpW (P : Program) (ops : Array Oper) (i : Nat) (K : Act → World → Prop) (a : Act) (w : World) : Prop :=
  match ops[i]? with
  | none => K a w
  | some o => if Region.wanted o (yielded ops a.tmps) then OpW P o a w K else K (a.put o.dst undef) w
theorem wpOpW_mono {ops : Array Oper} {i : Nat} {a : Act} {w : World} {K K' : Act → World → Prop} (h : ∀ a w, K a w → K' a w) (hh : wpOpW P ops i K a w) : wpOpW P ops i K' a w := by
  unfold wpOpW at *
  split
  · exact h _ _ (by simpa [*] using hh)
  · rename_i o ho
    simp only [ho] at hh
    split
    · rename_i hw; simp only [hw, if_true] at hh; exact OpW.mono h hh
    · rename_i hw; simp only [hw] at hh; exact h _ _ hh
/-- No fence but the kind of frame: a function's own, or a round's of loop l. -/
def rd (r : Option Nat) : Fence := { Fence.wide with round := r }
theorem callsIn_rd {r : Option Nat} {n : Nat} {f : FuncId} {args : Array Value} {w : World} {R : Ending → World → Prop} (h : Calls P f args w R) : CallsIn (rd r) n P f args w R := by
  obtain ⟨h1, h2⟩ := (callsIn_wide (n := n)).2 h
  exact ⟨trivial, fun cs hr => h2 cs (room_wide _)⟩
theorem roundIn_rd {r : Option Nat} {n m : Nat} {l : Nat} {f : FuncId} {tmps : Array Value} {x y : Code} {w : World} {R : Ending → World → Prop} (h : RoundIn Fence.wide m P l f tmps x y w R) : RoundIn (rd r) n P l f tmps x y w R :=
  ⟨trivial, fun c cs hr => h.2 c cs (room_wide _)⟩
theorem OpW.wpIn {r : Option Nat} {n : Nat} {o : Oper} {a : Act} {w : World} {K : Act → World → Prop} (Q : Exit → Act → World → Prop) (h : OpW P o a w K) : o.wpIn (rd r) n P a w K Q := by
  refine ⟨fun _ _ => trivial, ?_⟩
  have hnd : ∀ c, o.op ≠ .defer c := fun c ho => by
    unfold OpW at h
    simp only [execOp, ho, Sem.run_bind] at h
    cases hq : (resolve a.eval c o.type).run P w with
    | ok d w' => rw [hq] at h; exact h
    | halt x w' => rw [hq] at h; exact h
  rw [show (rd r).round = r from rfl, Oper.semAt_eq r a.eval o hnd]
  unfold OpW at h
  generalize (execOp a.eval o).run P w = res at *
  cases res with
  | halt x w' => exact h.elim
  | ok x w' =>
    cases x with
    | value v => exact h
    | skip => exact h
    | enter f args => exact ⟨(fun q => by cases q), callsIn_rd (Calls.mono h fun e w'' he => by cases e <;> first | exact he | exact he.elim)⟩
    | round l f tmps assign body => exact ⟨(fun q => by cases q), roundIn_rd (RoundIn.mono h fun e w'' he => by cases e <;> first | exact he | exact he.elim)⟩
    | _ => exact h.elim
theorem wpOpW.wpIn {r : Option Nat} {n : Nat} {ops : Array Oper} {i : Nat} {a : Act} {w : World} {K : Act → World → Prop} (Q : Exit → Act → World → Prop) (h : wpOpW P ops i K a w) : wpOpIn (rd r) n P ops Q i K a w := by
  unfold wpOpW at h
  unfold wpOpIn
  split at h
  · rename_i ho; simp only [ho]; exact h
  · rename_i o ho
    simp only [ho]
    split at h
    · rename_i hw; rw [if_pos hw]; exact h.wpIn Q
    · rename_i hw; rw [if_neg hw]; exact ⟨fun _ _ => trivial, h⟩
theorem nthK_some {α : Type} {K : α → Prop} {j : Nat} {l : List α} (h : nthK j l K) : ∃ x, l[j]? = some x ∧ K x := nthK_ok j l h
/-- The guard's slot. -/
theorem guard_ok (h : SRep cx W0 ok0 S0 β0 tm mm β a w) {ops : Array Oper} {j : Nat} {K : Nat → Bool → Prop} {S : Prop} (hk : gdst ops.toList j fun g => lkK g tm fun a => grdK a (fun b => K g b) S) :
    (∃ g b, yielded ops a.tmps j = some b ∧ lkT g tm = .d (.v (.bool b)) ∧ K g b) ∨ (yielded ops a.tmps j = none ∧ S) := by
  unfold gdst at hk
  obtain ⟨o', ho', hk⟩ := nthK_ok _ _ hk
  split at hk
  · rename_i d hd
    rw [lkK_eq] at hk
    have ho2 : ops[j]? = some o' := by simpa using ho'
    generalize hb : lkT d tm = av at hk
    have hv := h.tm d
    rw [hb] at hv
    unfold grdK at hk
    split at hk
    rotate_left
    · rename_i x hnb
      have hv : a.tmps.getD d undef = x := hv
      refine .inr ⟨?_, hk⟩
      simp only [yielded, ho2, Option.bind_some, hd]
      cases hq : a.tmps[d]? with
      | none => rfl
      | some y =>
        rw [Array.getD_eq_getD_getElem?, hq] at hv
        have hv : y = x := hv
        subst hv
        cases y <;> first | rfl | exact (hnb _ rfl).elim
    · exact hk.elim
    rename_i b
    left
    have hv : a.tmps.getD d undef = .bool b := hv
    have hv2 : a.tmps[d]? = some (.bool b) := by
      rw [Array.getD_eq_getD_getElem?] at hv
      cases hq : a.tmps[d]? with
      | none => rw [hq] at hv; cases hv
      | some x => rw [hq] at hv; simp at hv; rw [hv]
    refine ⟨d, b, ?_, hb, hk⟩
    simp [yielded, ho2, hd, hv2]
  · exact hk.elim
theorem SRep.known (h : SRep cx W0 ok0 S0 β0 tm mm β a w) {g : Nat} {x : AV} (hg : lkT g tm = x) : SRep cx W0 ok0 S0 β0 ((g, x) :: tm) mm β a w :=
  h.retell fun t => by
    simp only [lkT]
    by_cases e : t = g
    · subst e; simp only [beq_self, cond_true, ← hg]; exact h.tm t
    · rw [beq_ne e]; exact h.tm t
theorem goes_guard {g : Option (Nat × Bool)} (h : Goes P cx W0 ok0 S0 β0 { o with guard := g } a w Q K) : Goes P cx W0 ok0 S0 β0 o a w Q K := by
  cases o; exact h
/-- One operation as the region's text has it. -/
theorem oneK_ok (h : SRep cx W0 ok0 S0 β0 tm mm β a w) (hc : Cok P cx W0 ok0 S0) (hs : Sok P cx) {ops : Array Oper} {i : Nat} (hi : ops[i]? = some o) (hk : opsK cx ops.toList [o] tm mm K) :
    wpOpW P ops i (fun a' w' => ∃ tm' mm' β', SRep cx W0 ok0 S0 β0 tm' mm' β' a' w' ∧ K tm' mm') a w := by
  unfold wpOpW
  simp only [hi]
  simp only [opsK] at hk
  have skip : ∀ tm, SRep cx W0 ok0 S0 β0 tm mm β a w → putK cx o.dst (.d (.v undef)) tm (fun tm => K tm mm) → ∃ tm' mm' β', SRep cx W0 ok0 S0 β0 tm' mm' β' (a.put o.dst undef) w ∧ K tm' mm' := by
    intro tm h hk
    obtain ⟨tm', h', hk⟩ := putK_ok h hk (v := undef) rfl
    exact ⟨tm', mm, β, h', hk⟩
  split at hk
  · rename_i hg
    rw [if_pos (by simp [Region.wanted, hg])]
    exact (opK_ok (Q := fun _ _ _ => False) h hc hs hk).goes
  · rename_i j want hg
    rcases guard_ok h (K := fun g b => brK b _ _) hk with ⟨g, b, hy, hb, hkb⟩ | ⟨hy, hS⟩
    rotate_left
    · clear hk
      rw [if_neg (by simp [Region.wanted, hg, hy])]
      exact skip _ h hS
    clear hk
    rcases brK_ok hkb with ⟨rfl, hk⟩ | ⟨rfl, hk⟩ <;> clear hkb
    · have h1 := h.known hb
      cases want with
      | true =>
        rw [if_pos (by simp [Region.wanted, hg, hy])]
        exact goes_guard (g := none) (opK_ok (Q := fun _ _ _ => False) h1 hc hs hk).goes
      | false =>
        rw [if_neg (by simp [Region.wanted, hg, hy])]
        exact skip _ h1 hk
    · have h1 := h.known hb
      cases want with
      | false =>
        rw [if_pos (by simp [Region.wanted, hg, hy])]
        exact goes_guard (g := none) (opK_ok (Q := fun _ _ _ => False) h1 hc hs hk).goes
      | true =>
        rw [if_neg (by simp [Region.wanted, hg, hy])]
        exact skip _ h1 hk
theorem opsK_split {all : List Oper} {o : Oper} {r : List Oper} (hk : opsK cx all (o :: r) tm mm K) : opsK cx all [o] tm mm fun tm mm => opsK cx all r tm mm K := by
  simp only [opsK] at hk ⊢
  exact hk
theorem opsK_ok {r : Option Nat} {n : Nat} (hc : Cok P cx W0 ok0 S0) (hs : Sok P cx) {ops : Array Oper} (hQ : ∀ tm mm β a w, SRep cx W0 ok0 S0 β0 tm mm β a w → K tm mm → Q .normal a w) :
    ∀ (l : List Oper) (i : Nat), (∀ j, ops[i + j]? = l[j]?) → ∀ {tm : TM} {mm : MM} {β : Nat → Ent} {a : Act} {w : World}, SRep cx W0 ok0 S0 β0 tm mm β a w → opsK cx ops.toList l tm mm K → wpOpsIn (rd r) n P ops Q (List.range' i l.length) a w
  | [], i, _, tm, mm, β, a, w, h, hk => hQ _ _ _ _ _ h hk
  | o :: l', i, hl, tm, mm, β, a, w, h, hk => by
    rw [List.length_cons, List.range'_succ, wpOpsIn_cons]
    refine wpOpIn_mono (fun a' w' ⟨tm', mm', β', h', hk'⟩ => opsK_ok hc hs hQ l' (i + 1) (fun j => ?_) h' hk') ((oneK_ok h hc hs (by simpa using hl 0) (opsK_split hk)).wpIn Q)
    have := hl (j + 1)
    rw [show i + 1 + j = i + (j + 1) by omega, this]
    rfl

/-! ### regions that draw their order -/
section draw
variable {ops : Array Oper}
def wpAnyC (P : Program) (ops : Array Oper) (calm : Nat → Bool) (Q : Exit → Act → World → Prop) : Nat → Array Bool → Act → World → Prop
  | 0, listed, a, w => Region.ready .any ops listed = [] ∧ Q .normal a w
  | n + 1, listed, a, w => (Region.ready .any ops listed = [] → Q .normal a w) ∧
      ∀ i ∈ Region.ready .any ops listed, wpOpW P ops i (fun a' w' => (calm i = true → Below w.heap.size w w') ∧ wpAnyC P ops calm Q n (listed.setIfInBounds i true) a' w') a w
theorem wpAnyC_any {r : Option Nat} {nn : Nat} {calm : Nat → Bool} {Q : Exit → Act → World → Prop} : ∀ (n : Nat) (listed : Array Bool) (a : Act) (w : World), wpAnyC P ops calm Q n listed a w → wpAnyIn (rd r) nn P .any ops Q n listed a w
  | 0, _, _, _, h => h
  | n + 1, listed, a, w, h => ⟨h.1, fun i hi => (wpOpW_mono (fun a' w' h' => wpAnyC_any n _ a' w' h'.2) (h.2 i hi)).wpIn Q⟩
def YieldsC (P : Program) (ops : Array Oper) (o : Oper) (v : Value) (a : Act) (w : World) : Prop :=
  (Region.wanted o (yielded ops a.tmps) = true ∧ ∀ w2, (loadB o = true → Below w.heap.size w w2) → (execOp a.eval o).run P w2 = .ok (.value v) w2) ∨ (Region.wanted o (yielded ops a.tmps) = false ∧ v = undef)
theorem YieldsC.wpOpW {i : Nat} {o : Oper} {v : Value} {a : Act} {w : World} (hi : ops[i]? = some o) (hy : YieldsC P ops o v a w) {K : Act → World → Prop} (h : K (a.put o.dst v) w) : wpOpW P ops i K a w := by
  unfold V.wpOpW
  simp only [hi]
  rcases hy with ⟨hw, hv⟩ | ⟨hw, rfl⟩
  · simp only [hw, if_true, OpW, hv w (fun _ => below_self w), upW]; exact h
  · simp only [hw, Bool.false_eq_true, if_false]; exact h
theorem YieldsC.go {o : Oper} {v : Value} {a a' : Act} {w w' : World} (hy : YieldsC P ops o v a w) (he : execOp a'.eval o = execOp a.eval o) (hw : Region.wanted o (yielded ops a'.tmps) = Region.wanted o (yielded ops a.tmps))
    (hb : loadB o = true → Below w.heap.size w w') : YieldsC P ops o v a' w' := by
  unfold YieldsC at *
  rw [he, hw]
  refine hy.imp (fun ⟨h1, h2⟩ => ⟨h1, fun w2 h3 => h2 w2 fun hl => ?_⟩) id
  have h4 := hb hl
  have h5 := h3 hl
  exact ⟨h5.os.trans h4.os, h5.tape.trans h4.tape, h5.output.trans h4.output, Nat.le_trans h4.size h5.size, fun b hb' => (h5.block b (Nat.lt_of_lt_of_le hb' h4.size)).trans (h4.block b hb')⟩
theorem wpOp_putC {calm : Nat → Bool} {Q : Exit → Act → World → Prop} {j : Nat} {oi oj : Oper} {v : Value} (hj : ops[j]? = some oj) (hap : oi.apart ops oj = true) (hsi : ∀ cs b, oi.op ≠ .select cs b) (hsj : ∀ cs b, oj.op ≠ .select cs b)
    (hQ : ∀ c a w, ¬ Q (.panic c) a w) {K : Act → World → Prop} {a : Act} {w : World} (hcalm : loadB oi = true → calm j = true) (hy : YieldsC P ops oi v a w)
    (h : wpOpW P ops j (fun a' w' => (calm j = true → Below w.heap.size w w') ∧ K a' w') (a.put oi.dst v) w) :
    wpOpW P ops j (fun a' w' => (calm j = true → Below w.heap.size w w') ∧ YieldsC P ops oi v a' w' ∧ K (a'.put oi.dst v) w') a w := by
  obtain ⟨h1, h2, h3⟩ := Oper.apart_spec hap
  have keep : ∀ (w' : World) u, (calm j = true → Below w.heap.size w w') → YieldsC P ops oi v (a.put oj.dst u) w' := fun w' u hb =>
    hy.go (execOp_put oi hsi a oj.dst u h3) (wanted_put oi a oj.dst u h3) (fun hl => hb (hcalm hl))
  have keepD : ∀ (w' : World) d u, (calm j = true → Below w.heap.size w w') → YieldsC P ops oi v (({ a with defers := d :: a.defers } : Act).put oj.dst u) w' := fun w' d u hb =>
    (hy.go (a' := { a with defers := d :: a.defers }) (w' := w') rfl rfl (fun hl => hb (hcalm hl))).go (execOp_put oi hsi _ oj.dst u h3) (wanted_put oi _ oj.dst u h3) (fun _ => below_self _)
  unfold wpOpW at *
  simp only [hj] at *
  rw [wanted_put oj a oi.dst v h1] at h
  split
  · rename_i hw
    simp only [hw, if_true] at h
    unfold OpW at *
    rw [execOp_put oj hsj a oi.dst v h1] at h
    generalize (execOp a.eval oj).run P w = r at *
    cases r with
    | ok n w' =>
      cases n <;> simp only [upW] at h ⊢
      case value u => exact ⟨h.1, keep w' u h.1, by rw [← Act.put_comm a v u h2]; exact h.2⟩
      case skip => exact ⟨h.1, keep w' _ h.1, by rw [← Act.put_comm a v undef h2]; exact h.2⟩
      case enter f args =>
        refine Calls.mono h fun e w'' he => ?_
        cases e with
        | returned u => exact ⟨he.1, keep w'' u he.1, by rw [← Act.put_comm a v u h2]; exact he.2⟩
        | panicked c => exact he.elim
        | outgrown => exact he.elim
      case round l f tmps assign body =>
        refine RoundIn.mono h fun e w'' he => ?_
        cases e with
        | returned u => exact ⟨he.1, keep w'' u he.1, by rw [← Act.put_comm a v u h2]; exact he.2⟩
        | panicked c => exact he.elim
        | outgrown => exact he.elim
    | halt x w' => exact h.elim
  · rename_i hw
    simp only [hw] at h
    exact ⟨h.1, keep w _ h.1, by rw [← Act.put_comm a v undef h2]; exact h.2⟩
theorem wpAnyC_first {calm : Nat → Bool} {Q : Exit → Act → World → Prop} {i : Nat} {oi : Oper} {v : Value} (hi : ops[i]? = some oi) (hsel : ∀ (j : Nat) (o : Oper) cs b, ops[j]? = some o → o.op ≠ .select cs b) (hQ : ∀ c a w, ¬ Q (.panic c) a w) :
    ∀ (n : Nat) (listed : Array Bool) (a : Act) (w : World),
      (∀ j oj, ops[j]? = some oj → j ≠ i → listed.getD j true = false → (∀ e ∈ oj.after, Region.binds .any e = true → e.on ≠ i) → oi.apart ops oj = true ∧ (loadB oi = true → calm j = true)) →
      i ∈ Region.ready .any ops listed → YieldsC P ops oi v a w → wpAnyC P ops calm Q n (listed.setIfInBounds i true) (a.put oi.dst v) w → wpAnyC P ops calm Q (n + 1) listed a w := by
  intro n
  induction n with
  | zero =>
    intro listed a w _ hr hy H
    refine ⟨fun h => (by rw [h] at hr; cases hr), fun j hj => ?_⟩
    by_cases hji : j = i
    · subst hji; exact hy.wpOpW hi ⟨fun _ => below_self w, H⟩
    · have := ready_mono hj hji
      rw [H.1] at this
      cases this
  | succ n ih =>
    intro listed a w hfree hr hy H
    refine ⟨fun h => (by rw [h] at hr; cases hr), fun j hj => ?_⟩
    by_cases hji : j = i
    · subst hji; exact hy.wpOpW hi ⟨fun _ => below_self w, H⟩
    · have h1 := H.2 j (ready_mono hj hji)
      obtain ⟨hjun, oj, hoj, hall⟩ := mem_ready.1 hj
      have hnot : ∀ e ∈ oj.after, Region.binds .any e = true → e.on ≠ i := fun e he hb heq => by
        have h1 := hall e he hb
        have h0 := (mem_ready.1 hr).1
        rw [heq] at h1
        rcases Nat.lt_or_ge i listed.size with h' | h'
        · simp [h'] at h0 h1; rw [h0] at h1; cases h1
        · simp [Array.getElem?_eq_none h'] at h1
      obtain ⟨hap, hcl⟩ := hfree j oj hoj hji hjun hnot
      have h2 := wpOp_putC hoj hap (fun cs b => hsel i oi cs b hi) (fun cs b => hsel j oj cs b hoj) hQ hcl hy h1
      have hfree' : ∀ k ok, ops[k]? = some ok → k ≠ i → (listed.setIfInBounds j true).getD k true = false → (∀ e ∈ ok.after, Region.binds .any e = true → e.on ≠ i) → oi.apart ops ok = true ∧ (loadB oi = true → calm k = true) := fun k ok hk hki hun hno => by
        refine hfree k ok hk hki ?_ hno
        by_cases hjk : j = k
        · subst hjk; exact hjun
        · rw [getD_set_ne true hjk] at hun; exact hun
      refine wpOpW_mono (fun a' w' h3 => ⟨h3.1, ih (listed.setIfInBounds j true) a' w' hfree' (ready_mono hr (Ne.symm hji)) h3.2.1 ?_⟩) h2
      rw [Array.setIfInBounds_comm _ _ hji]
      exact h3.2.2
end draw
theorem goesC_guard {g : Option (Nat × Bool)} (h : GoesC P cx W0 ok0 S0 β0 { o with guard := g } a w (calmB cx { o with guard := g }) Q K) : GoesC P cx W0 ok0 S0 β0 o a w (calmB cx o) Q K := by
  cases o; exact h
theorem goesP_guard {g : Option (Nat × Bool)} (h : GoesP P cx W0 ok0 S0 β0 { o with guard := g } a w mm β K) : GoesP P cx W0 ok0 S0 β0 o a w mm β K := by
  cases o; exact h
theorem oneC_ok (h : SRep cx W0 ok0 S0 β0 tm mm β a w) (hc : Cok P cx W0 ok0 S0) (hs : Sok P cx) {ops : Array Oper} {i : Nat} (hi : ops[i]? = some o) (hk : opsK cx ops.toList [o] tm mm K) :
    wpOpW P ops i (fun a' w' => (calmB cx o = true → Below w.heap.size w w') ∧ ∃ tm' mm' β', SRep cx W0 ok0 S0 β0 tm' mm' β' a' w' ∧ K tm' mm') a w := by
  unfold wpOpW
  simp only [hi]
  simp only [opsK] at hk
  have skip : ∀ tm, SRep cx W0 ok0 S0 β0 tm mm β a w → putK cx o.dst (.d (.v undef)) tm (fun tm => K tm mm) → (calmB cx o = true → Below w.heap.size w w) ∧ ∃ tm' mm' β', SRep cx W0 ok0 S0 β0 tm' mm' β' (a.put o.dst undef) w ∧ K tm' mm' := by
    intro tm h hk
    obtain ⟨tm', h', hk⟩ := putK_ok h hk (v := undef) rfl
    exact ⟨fun _ => below_self w, tm', mm, β, h', hk⟩
  split at hk
  · rename_i hg
    rw [if_pos (by simp [Region.wanted, hg])]
    exact opK_ok (Q := fun _ _ _ => False) h hc hs hk
  · rename_i j want hg
    rcases guard_ok h (K := fun g b => brK b _ _) hk with ⟨g, b, hy, hb, hkb⟩ | ⟨hy, hS⟩
    rotate_left
    · clear hk
      rw [if_neg (by simp [Region.wanted, hg, hy])]
      exact skip _ h hS
    clear hk
    rcases brK_ok hkb with ⟨rfl, hk⟩ | ⟨rfl, hk⟩ <;> clear hkb
    · have h1 := h.known hb
      cases want with
      | true =>
        rw [if_pos (by simp [Region.wanted, hg, hy])]
        exact goesC_guard (g := none) (opK_ok (Q := fun _ _ _ => False) h1 hc hs hk)
      | false =>
        rw [if_neg (by simp [Region.wanted, hg, hy])]
        exact skip _ h1 hk
    · have h1 := h.known hb
      cases want with
      | false =>
        rw [if_pos (by simp [Region.wanted, hg, hy])]
        exact goesC_guard (g := none) (opK_ok (Q := fun _ _ _ => False) h1 hc hs hk)
      | true =>
        rw [if_neg (by simp [Region.wanted, hg, hy])]
        exact skip _ h1 hk
theorem oneP_ok (h : SRep cx W0 ok0 S0 β0 tm mm β a w) (hc : Cok P cx W0 ok0 S0) {ops : Array Oper} (hp : pureB o = true) (hk : opsK cx ops.toList [o] tm mm K) :
    ∃ v, YieldsC P ops o v a w ∧ ∃ tm', SRep cx W0 ok0 S0 β0 tm' mm β (a.put o.dst v) w ∧ K tm' mm := by
  simp only [opsK] at hk
  have skip : ∀ tm, Region.wanted o (yielded ops a.tmps) = false → SRep cx W0 ok0 S0 β0 tm mm β a w → putK cx o.dst (.d (.v undef)) tm (fun tm => K tm mm) → ∃ v, YieldsC P ops o v a w ∧ ∃ tm', SRep cx W0 ok0 S0 β0 tm' mm β (a.put o.dst v) w ∧ K tm' mm := by
    intro tm hw h hk
    obtain ⟨tm', h', hk⟩ := putK_ok h hk (v := undef) rfl
    exact ⟨undef, .inr ⟨hw, rfl⟩, tm', h', hk⟩
  have go : Region.wanted o (yielded ops a.tmps) = true → GoesP P cx W0 ok0 S0 β0 o a w mm β K → ∃ v, YieldsC P ops o v a w ∧ ∃ tm', SRep cx W0 ok0 S0 β0 tm' mm β (a.put o.dst v) w ∧ K tm' mm := by
    rintro hw ⟨v, hr, h2⟩
    exact ⟨v, .inl ⟨hw, hr⟩, h2⟩
  have hp' : ∀ g, pureB { o with guard := g } = true := fun g => by cases o; exact hp
  split at hk
  · rename_i hg
    exact go (by simp [Region.wanted, hg]) (pure_ok h hc hp hk)
  · rename_i j want hg
    rcases guard_ok h (K := fun g b => brK b _ _) hk with ⟨g, b, hy, hb, hkb⟩ | ⟨hy, hS⟩
    rotate_left
    · clear hk
      exact skip _ (by simp [Region.wanted, hg, hy]) h hS
    clear hk
    rcases brK_ok hkb with ⟨rfl, hk⟩ | ⟨rfl, hk⟩ <;> clear hkb
    · have h1 := h.known hb
      cases want with
      | true => exact go (by simp [Region.wanted, hg, hy]) (goesP_guard (g := none) (pure_ok h1 hc (hp' none) hk))
      | false => exact skip _ (by simp [Region.wanted, hg, hy]) h1 hk
    · have h1 := h.known hb
      cases want with
      | false => exact go (by simp [Region.wanted, hg, hy]) (goesP_guard (g := none) (pure_ok h1 hc (hp' none) hk))
      | true => exact skip _ (by simp [Region.wanted, hg, hy]) h1 hk
def calmOf (cx : Cx) (ops : Array Oper) (i : Nat) : Bool :=
  match ops[i]? with
  | some o => calmB cx o
  | none => true
theorem free_ok {ops : Array Oper} {listed : Array Bool} {i : Nat} {oi : Oper} (hi : ops[i]? = some oi) (h : freeB cx ops listed i = true) : pureB oi = true ∧ ∀ j oj, ops[j]? = some oj → j ≠ i → listed.getD j true = false → (∀ e ∈ oj.after, Region.binds .any e = true → e.on ≠ i) →
    oi.apart ops oj = true ∧ (loadB oi = true → calmOf cx ops j = true) := by
  simp only [freeB, hi, Bool.and_eq_true, List.all_eq_true, List.mem_range] at h
  refine ⟨h.1, fun j oj hj hne hun hno => ?_⟩
  have h1 := h.2 j (Array.getElem?_eq_some_iff.1 hj).1
  simp only [hj, Bool.or_eq_true, beq_iff_eq, hne, false_or, hun, Bool.false_eq_true] at h1
  rcases h1 with h1 | h1
  · obtain ⟨e, he, hb⟩ := Array.any_eq_true'.1 h1
    simp only [Bool.and_eq_true, beq_iff_eq] at hb
    exact absurd hb.2 (hno e he hb.1)
  · simp only [Bool.and_eq_true, Bool.or_eq_true, Bool.not_eq_true'] at h1
    refine ⟨h1.1, fun hl => ?_⟩
    rcases h1.2 with h2 | h2
    · rw [hl] at h2; cases h2
    · simp only [calmOf, hj]; exact h2
theorem plan_ok (hc : Cok P cx W0 ok0 S0) (hs : Sok P cx) {ops : Array Oper} (hsel : Region.noSelect ops = true) (hQ : ∀ tm mm β a w, SRep cx W0 ok0 S0 β0 tm mm β a w → K tm mm → Q .normal a w) (hQp : ∀ c a w, ¬ Q (.panic c) a w) : ∀ (p : Plan),
    (∀ l, planOk cx ops true p l = true → ∀ {tm mm β a w}, SRep cx W0 ok0 S0 β0 tm mm β a w → planK cx ops.toList true p tm mm K → wpAnyC P ops (calmOf cx ops) Q (ops.size - l.length) (arrOf ops.size l) a w) ∧
    (∀ l, planOk cx ops false p l = true → ∀ {tm mm β a w}, SRep cx W0 ok0 S0 β0 tm mm β a w → planK cx ops.toList false p tm mm K → ∀ i ∈ p.heads, wpOpW P ops i (fun a' w' => (calmOf cx ops i = true → Below w.heap.size w w') ∧ wpAnyC P ops (calmOf cx ops) Q (ops.size - (l.length + 1)) (arrOf ops.size (i :: l)) a' w') a w) := by
  intro p
  induction p with
  | done =>
    refine ⟨fun l hp tm mm β a w h hk => ?_, fun l hp tm mm β a w h hk i hi => by cases hi⟩
    simp only [planOk, Bool.not_true, Bool.false_or, List.isEmpty_iff] at hp
    cases ops.size - l.length with
    | zero => exact ⟨hp, hQ _ _ _ _ _ h hk⟩
    | succ n => exact ⟨fun _ => hQ _ _ _ _ _ h hk, fun i hi => by rw [hp] at hi; cases hi⟩
  | take i p ih =>
    refine ⟨fun l hp tm mm β a w h hk => ?_, fun l hp tm mm β a w h hk i hi => by cases hi⟩
    simp only [planOk, Bool.true_and, Bool.and_eq_true] at hp
    obtain ⟨⟨⟨h1, h2⟩, h3⟩, h4⟩ := hp
    rw [Nat.blt_eq] at h1
    obtain ⟨o, ho, hk⟩ := nthK_ok _ _ hk
    have ho2 : ops[i]? = some o := by simpa using ho
    obtain ⟨hpu, hfree⟩ := free_ok ho2 h3
    obtain ⟨v, hy, tm', h', hk⟩ := oneP_ok h hc (ops := ops) hpu hk
    have := ih.1 (i :: l) h4 h' hk
    rw [List.length_cons] at this
    rw [show ops.size - l.length = ops.size - (l.length + 1) + 1 by omega]
    exact wpAnyC_first ho2 (Region.noSelect_spec hsel) hQp _ _ _ _ hfree (by simpa using h2) hy this
  | alt i p q ihp ihq =>
    have one : ∀ l, planOk cx ops true p (i :: l) = true → ∀ {tm mm β a w}, SRep cx W0 ok0 S0 β0 tm mm β a w → (nthK i ops.toList fun o => opsK cx ops.toList [o] tm mm fun tm mm => planK cx ops.toList true p tm mm K) →
        wpOpW P ops i (fun a' w' => (calmOf cx ops i = true → Below w.heap.size w w') ∧ wpAnyC P ops (calmOf cx ops) Q (ops.size - (l.length + 1)) (arrOf ops.size (i :: l)) a' w') a w := by
      intro l hp tm mm β a w h hk
      obtain ⟨o, ho, hk⟩ := nthK_ok _ _ hk
      have ho2 : ops[i]? = some o := by simpa using ho
      refine wpOpW_mono (fun a' w' h2 => ?_) (oneC_ok h hc hs ho2 hk)
      obtain ⟨hcl, tm', mm', β', h', hk'⟩ := h2
      refine ⟨fun hq => hcl (by simpa only [calmOf, ho2] using hq), ?_⟩
      have := ihp.1 (i :: l) hp h' hk'
      rwa [List.length_cons] at this
    refine ⟨fun l hp tm mm β a w h hk => ?_, fun l hp tm mm β a w h hk j hj => ?_⟩
    · simp only [planOk, Bool.not_true, Bool.false_or, Bool.and_eq_true, List.all_eq_true] at hp
      obtain ⟨⟨⟨⟨h1, h2⟩, h3⟩, h4⟩, h5⟩ := hp
      rw [Nat.blt_eq] at h3
      rw [show ops.size - l.length = ops.size - (l.length + 1) + 1 by omega]
      refine ⟨fun he => by rw [he] at h1; simp at h1, fun j hj => ?_⟩
      have hjh := h2 j hj
      simp only [Plan.heads, List.contains_iff_mem, List.mem_cons] at hjh
      rcases hjh with rfl | hjh
      · exact one l h4 h hk.1
      · exact ihq.2 l h5 h hk.2 j hjh
    · simp only [planOk, Bool.not_false, Bool.true_or, Bool.true_and, Bool.and_eq_true] at hp
      obtain ⟨⟨h3, h4⟩, h5⟩ := hp
      simp only [Plan.heads, List.mem_cons] at hj
      rcases hj with rfl | hj
      · exact one l h4 h hk.1
      · exact ihq.2 l h5 h hk.2 j hj
/-- What vc's condition says of a state. -/
def lift (cx : Cx) (W0 : World) (ok0 S0 : Nat → Prop) (β0 : Nat → Ent) (Q : Ex → TM → MM → Prop) : Exit → Act → World → Prop
  | .normal, a, w => ∃ tm mm β, SRep cx W0 ok0 S0 β0 tm mm β a w ∧ Q .normal tm mm
  | .exit i, a, w => ∃ tm mm β, SRep cx W0 ok0 S0 β0 tm mm β a w ∧ Q (.exit i) tm mm
  | .ret, a, w => ∃ tm mm β, SRep cx W0 ok0 S0 β0 tm mm β a w ∧ Q .ret tm mm
  | _, _, _ => False
theorem wpm {r : Option Nat} {n : Nat} {c : Code} {Q Q' : Exit → Act → World → Prop} {a : Act} {w : World} (hq : ∀ e a w, Q e a w → Q' e a w) (h : c.wpIn (rd r) n P Q a w) : c.wpIn (rd r) n P Q' a w := wpIn_mono h hq
theorem least {p : Nat → Prop} (h : ∃ n, p n) : ∃ n, p n ∧ ∀ m, p m → n ≤ m := by
  obtain ⟨n, hn⟩ := h
  induction n using Nat.strongRecOn with
  | _ n ih =>
    by_cases hm : ∃ m, m < n ∧ p m
    · obtain ⟨m, h1, h2⟩ := hm; exact ih m h1 h2
    · exact ⟨n, hn, fun m hp => by
        rcases Nat.lt_or_ge m n with h | h
        · exact absurd ⟨m, h, hp⟩ hm
        · exact h⟩
theorem wp_loop_rel {r : Option Nat} {nn : Nat} {c : Code} {R : Nat → Act → World → Prop} {Q : Exit → Act → World → Prop} {n : Nat} {a : Act} {w : World} (h0 : R n a w)
    (round : ∀ n a w, R n a w → c.wpIn (rd r) nn P (Exit.then (fun a' w' => ∃ m, m < n ∧ R m a' w') Q) a w) : (Code.loop c).wpIn (rd r) nn P Q a w := by
  let μ : Act → World → Nat := fun a w => by
    classical exact if h : ∃ n, R n a w then Classical.choose (least h) else 0
  have hμ : ∀ a w, (∃ n, R n a w) → R (μ a w) a w ∧ ∀ m, R m a w → μ a w ≤ m := fun a w h => by
    have : μ a w = Classical.choose (least h) := by simp only [μ]; rw [dif_pos h]
    rw [this]
    exact Classical.choose_spec (least h)
  refine wpIn_loop (fun a w => ∃ n, R n a w) μ ⟨n, h0⟩ fun a w hR => ?_
  refine wpm (fun e a' w' hq => ?_) (round _ a w (hμ a w hR).1)
  cases e with
  | normal =>
    obtain ⟨m, h1, h2⟩ := hq
    exact ⟨⟨m, h2⟩, Nat.lt_of_le_of_lt ((hμ a' w' ⟨m, h2⟩).2 m h2) h1⟩
  | _ => exact hq
/-- Code that may run in a round: it holds no loop over a function of its own. -/
def rdOk : Code → Bool
  | .seq x y => rdOk x && rdOk y
  | .cond _ x y => rdOk x && rdOk y
  | .block _ c => rdOk c
  | .loop c => rdOk c
  | .scope _ => false
  | .rangeFunc _ _ _ _ => false
  | _ => true
theorem slotsK_ok (h : SRep cx W0 ok0 S0 β0 tm mm β a w) (sl : List Nat) : ∀ (n j : Nat) {K : List AV → Prop}, slotsK sl tm j n K →
    ∃ l, K l ∧ ∀ vs : List Value, vs.length = n → (∀ i, i < n → vs[i]? = some (a.tmps.getD (j + i) undef)) → AV.reps w (okB W0 ok0 S0 mm β w) β l vs
  | 0, j, K, hk => ⟨[], hk, fun vs hl _ => List.eq_nil_of_length_eq_zero hl⟩
  | n + 1, j, K, hk => by
    simp only [slotsK, lkK_eq] at hk
    have go : ∀ x : AV, x.rep w (okB W0 ok0 S0 mm β w) β (a.tmps.getD j undef) → (slotsK sl tm (j + 1) n fun l => K (x :: l)) →
        ∃ l, K l ∧ ∀ vs : List Value, vs.length = n + 1 → (∀ i, i < n + 1 → vs[i]? = some (a.tmps.getD (j + i) undef)) → AV.reps w (okB W0 ok0 S0 mm β w) β l vs := by
      intro x hx hk
      obtain ⟨l, hK, hl⟩ := slotsK_ok h sl n (j + 1) hk
      refine ⟨_, hK, fun vs hlen hvs => ?_⟩
      cases vs with
      | nil => simp at hlen
      | cons v rest =>
        have h0 := hvs 0 (by omega)
        simp only [List.getElem?_cons_zero, Option.some.injEq, Nat.add_zero] at h0
        subst h0
        refine ⟨_, rest, rfl, hx, hl rest (by simpa using hlen) (fun i hi => ?_)⟩
        have := hvs (i + 1) (by omega)
        rw [List.getElem?_cons_succ] at this
        rw [this, show j + (i + 1) = j + 1 + i by omega]
    cases hb : inL j sl with
    | true => rw [hb, cond_true] at hk; exact go _ (h.tm j) hk
    | false => rw [hb, cond_false] at hk; exact go .top trivial hk
theorem rf_sound (hc : Cok P cx W0 ok0 S0) (hs : Sok P cx) {n : Nat} {k : Nat} {sl : List Nat} {g : Operand} {ps : Array Tmp} {x y : Code} {Q : Ex → TM → MM → Prop} (h : SRep cx W0 ok0 S0 β0 tm mm β a w)
    (hk : rfR cx k sl g ps x y Q tm mm) : (Code.rangeFunc g ps x y).wpIn (rd none) n P (lift cx W0 ok0 S0 β0 Q) a w := by
  unfold rfR at hk
  simp only [killT_eq, killM_eq] at hk
  cases hkb : Nat.blt k V.hk with
  | false => simp only [hkb, cond_false] at hk
  | true =>
  simp only [hkb, cond_true] at hk
  refine wpIn_rangeFunc fun fn _ => ?_
  obtain ⟨rec, hrec⟩ : ∃ rec : Loop, rec = { state := .ready, pending := none, fn, tmps := a.tmps.toList.toArray, params := ps, assign := x, body := y, defers := w.heap.size } := ⟨_, rfl⟩
  -- the two blocks are laid
  have h1 := h.kill k
  have hb1 : Below w.heap.size w (w.alloc (.deferred (some []))) := (Below.refl _ w).alloc (Nat.le_refl _) _
  have h2 := h1.below hb1
  obtain ⟨β', hβk, hβo, _, h3⟩ := h2.new (by simpa [Nat.blt_eq] using hkb) (noRef_kill k tm mm) (.lp rec) (.loop rec) 0 _ rfl (fun ok' β' _ hd _ => by
    show ((w.alloc (.deferred (some []))).alloc (.loop rec)).heap[(β' k).blk]? = some (.loop rec)
    rw [hd]; exact World.alloc_heap_new _ _) (by simp)
  let a1 : Act := { a with defers := { target := .collected w.heap.size, args := #[] } :: a.defers }
  have hD : ((w.alloc (.deferred (some []))).alloc (.loop rec)).heap[w.heap.size]? = some (.deferred (some [])) :=
    (Below.heap_alloc _ _ _ (by simp)).trans (World.alloc_heap_new w _)
  have h4 : SRep cx W0 ok0 S0 β0 (killTM k tm) ((k, .lp rec) :: killMM k mm) β' a1 ((w.alloc (.deferred (some []))).alloc (.loop rec)) := {
    nt := h3.nt
    df := by
      obtain ⟨rs, e1, e2, e3⟩ := h3.df
      obtain ⟨rs0, f1, f2, f3⟩ := h.df
      have hrs : rs = rs0 := by
        have hinj : Function.Injective (fun r : Nat => ({ target := .collected r, args := #[] } : Deferred)) := fun p q e => by
          simp only [Deferred.mk.injEq, Target.collected.injEq, and_true] at e; exact e
        exact (List.map_inj_right hinj).1 (e2.symm.trans f2)
      refine ⟨w.heap.size :: rs, List.nodup_cons.2 ⟨fun hm => ?_, e1⟩, by rw [List.map_cons, ← e2], fun r hr => ?_⟩
      · rw [hrs] at hm
        have := (Array.getElem?_eq_some_iff.1 (f3 _ hm).2).1
        omega
      · rcases List.mem_cons.1 hr with rfl | hr
        · exact ⟨h.fr.size, hD⟩
        · exact e3 r hr
    tm := h3.tm, me := h3.me, inj := h3.inj, ow := h3.ow, fr := h3.fr, fx := h3.fx }
  obtain ⟨ga, hga, hk⟩ := evK_ok h4 hc g _ hk
  have hga := normA_rep ga hga
  revert hga hk
  generalize normA ga = ga
  intro hk hga
  split at hk
  case h_2 => exact hk.elim
  rename_i gf caps
  split at hk
  case h_2 => exact hk.elim
  rename_i C hsp
  obtain ⟨cs, hev, hcs⟩ := hga
  have hev : a.eval g = .func (.func gf) #[] cs.toArray := hev
  obtain ⟨ycaps, hk, hy⟩ := slotsK_ok h4 sl _ _ hk
  have hk := hk a.tmps.toList fn w.heap.size
  rw [← hrec] at hk
  obtain ⟨hfn, hmeets⟩ := hs.sp gf _ hsp
  have hLk : (β' k).blk = w.heap.size + 1 := by rw [hβk]; simp
  have hreps : AV.reps ((w.alloc (.deferred (some []))).alloc (.loop rec)) (okB W0 ok0 S0 ((k, .lp rec) :: killMM k mm) β' ((w.alloc (.deferred (some []))).alloc (.loop rec))) β' (.yl k a.tmps.toList ycaps :: caps) (.func (.yield (w.heap.size + 1)) #[] #[] :: cs) :=
    ⟨_, cs, rfl, ⟨by rw [hLk], hy _ (by rw [Array.length_toList]; exact h.nt) (fun i hi => by
      have hi' : i < a.tmps.size := by rw [h.nt]; exact hi
      show a.tmps.toList[i]? = some (a.tmps.getD (0 + i) undef)
      rw [Array.getD_eq_getD_getElem?, Nat.zero_add, Array.getElem?_toList, Array.getElem?_eq_getElem hi']; rfl)⟩, hcs⟩
  obtain ⟨βc, okc, l', m0, Kc, hC, hglob, hms, hl', hend⟩ := heapK_pre h4 hc hreps hk
  have eg := run_enter (P := P) hfn
  refine ⟨w.heap.size + 1, [{ target := .collected w.heap.size, args := #[] }], (w.alloc (.deferred (some []))).alloc (.loop rec), { target := .fn (.func gf) cs.toArray, args := #[.func (.yield (w.heap.size + 1)) #[] #[]] }, (w.alloc (.deferred (some []))).alloc (.loop rec), gf,
    #[.func (.yield (w.heap.size + 1)) #[] #[]] ++ cs.toArray, (w.alloc (.deferred (some []))).alloc (.loop rec), (by rw [hrec]; exact run_enterLoop_outer _ _ _ _ _), ?_, ?_, ?_, (fun q => by cases q), ?_⟩
  · simp only [resolve, hev]
    simp [go_sem]
  · intro f' hf'; simp [Target.leads] at hf'; exact trivial
  · simp [invoke, go_sem, eg]
  · have hcall := hmeets l' m0 Kc hC _ βc okc _ hglob hms hl'
    rw [show (#[.func (.yield (w.heap.size + 1)) #[] #[]] ++ cs.toArray : Array Value) = (.func (.yield (w.heap.size + 1)) #[] #[] :: cs).toArray from by simp]
    refine callsIn_rd (Calls.mono hcall (fun e w' he => ?_))
    · cases e with
      | panicked _ => exact he.elim
      | outgrown => exact he.elim
      | returned v =>
        obtain ⟨mm', β2, r, hpost, hms', hr⟩ := he
        obtain ⟨_, tm', mm3, β3, hβ3, h5, hk5⟩ := hend w' v mm' β2 r hpost hms' hr
        have h5 : SRep cx W0 ok0 S0 β0 tm' mm3 β3 a1 w' := h5
        unfold rfEnd at hk5
        rw [getK_eq] at hk5
        split at hk5
        case h_2 => exact hk5.elim
        rename_i r' hr'
        obtain ⟨⟨hbusy⟩, hk5⟩ := hk5
        rw [setK_eq] at hk5
        have hL3 : (β3 k).blk = w.heap.size + 1 := by rw [hβ3 rfl, hLk]
        have hheap : w'.heap[w.heap.size + 1]? = some (.loop r') := by
          have := h5.me k
          rw [hr'] at this
          rw [← hL3]; exact this
        have hlv : live mm3 β3 k := by unfold live; rw [hr']; trivial
        have hlt := (Array.getElem?_eq_some_iff.1 hheap).1
        have h6 := h5.write hlv (.lp { r' with state := .exhausted }) (w'.putObj (w.heap.size + 1) (.loop { r' with state := .exhausted })) rfl rfl rfl (by simp)
          (fun b hb => World.putObj_heap_other (by rw [← hL3]; exact hb)) (by rw [live_set, if_pos rfl]; trivial) (fun ok' _ => by
            show (w'.putObj (w.heap.size + 1) (.loop { r' with state := .exhausted })).heap[(β3 k).blk]? = _
            rw [hL3]; exact World.putObj_heap_same hlt)
        have h7 := (h6.drop k).1.same (mm' := setM k .gone mm3) (fun j => by rw [lkM_set, lkM_set, lkM_set]; split <;> rfl)
        have hrun := run_endLoop (P := P) hheap hbusy
        clear h6
        revert h7 hrun
        generalize w'.putObj (w.heap.size + 1) (.loop { r' with state := .exhausted }) = W4
        intro h7 hrun
        refine ⟨r'.pending, W4, hrun, ?_⟩
        show match r'.pending with
          | none => lift cx W0 ok0 S0 β0 Q .normal a1 W4
          | some c => c.wpIn (rd none) n P (lift cx W0 ok0 S0 β0 Q) a1 W4
        split at hk5
        · rename_i hp; rw [hp]; exact ⟨_, _, _, h7, hk5⟩
        · rename_i c hp
          rw [hp]
          split at hk5
          · exact wpIn_ret ⟨_, _, _, h7, hk5⟩
          · exact wpIn_exit ⟨_, _, _, h7, hk5⟩
          · exact hk5.elim
theorem vc_sound (hm : P.follows .mixedOrders = true) (hc : Cok P cx W0 ok0 S0) (hs : Sok P cx) (r : Option Nat) (n : Nat) : ∀ (c : Code) (hr : r = none ∨ rdOk c = true) (Q : Ex → TM → MM → Prop) {tm : TM} {mm : MM} {β : Nat → Ent} {a : Act} {w : World}, SRep cx W0 ok0 S0 β0 tm mm β a w → vc cx c Q tm mm → c.wpIn (rd r) n P (lift cx W0 ok0 S0 β0 Q) a w := by
  intro c
  induction c with
  | skip => exact fun hr Q {tm mm β a w} h hk => wpIn_skip ⟨tm, mm, β, h, hk⟩
  | label l => exact fun hr Q {tm mm β a w} h hk => wpIn_label ⟨tm, mm, β, h, hk⟩
  | ret => exact fun hr Q {tm mm β a w} h hk => wpIn_ret ⟨tm, mm, β, h, hk⟩
  | exit i => exact fun hr Q {tm mm β a w} h hk => wpIn_exit ⟨tm, mm, β, h, hk⟩
  | region id ops dr =>
    intro hr Q tm mm β a w h hk
    cases dr with
    | false =>
      refine wpIn_region ?_
      have := opsK_ok (r := r) (n := n) (Q := lift cx W0 ok0 S0 β0 Q) hc hs (ops := ops) (fun tm mm β a w h hk => ⟨tm, mm, β, h, hk⟩) ops.toList 0 (fun j => by simp) h hk
      rwa [Array.length_toList, ← List.range_eq_range'] at this
    | true =>
      simp only [vc] at hk
      split at hk
      · rename_i p _
        obtain ⟨⟨hsel, hp⟩, hk⟩ := hk
        refine wpIn_region_any hm (wpAnyC_any (calm := calmOf cx ops) _ _ _ _ ?_)
        have := (plan_ok (Q := lift cx W0 ok0 S0 β0 Q) hc hs hsel (fun tm mm β a w h hk => ⟨tm, mm, β, h, hk⟩) (fun _ _ _ h => h) p).1 [] hp h.drew hk
        exact this
      · exact hk.elim
  | seq x y ih1 ih2 =>
    intro hr Q tm mm β a w h hk
    have hr1 : r = none ∨ rdOk x = true := hr.imp id (fun q => by simp only [rdOk, Bool.and_eq_true] at q; exact q.1)
    have hr2 : r = none ∨ rdOk y = true := hr.imp id (fun q => by simp only [rdOk, Bool.and_eq_true] at q; exact q.2)
    refine wpIn_seq (wpm (fun e a w hq => ?_) (ih1 hr1 _ h hk))
    cases e with
    | normal => obtain ⟨tm, mm, β, h, hk⟩ := hq; exact ih2 hr2 _ h hk
    | exit i => exact hq
    | ret => exact hq
    | goto _ => exact hq.elim
    | panic _ => exact hq.elim
    | outgrown => exact hq.elim
  | cond c x y ih1 ih2 =>
    intro hr Q tm mm β a w h hk
    have hr1 : r = none ∨ rdOk x = true := hr.imp id (fun q => by simp only [rdOk, Bool.and_eq_true] at q; exact q.1)
    have hr2 : r = none ∨ rdOk y = true := hr.imp id (fun q => by simp only [rdOk, Bool.and_eq_true] at q; exact q.2)
    obtain ⟨x', hx, hk⟩ := evK_ok h hc c _ hk
    obtain ⟨b, rfl, hkb⟩ := boolK_ok hk
    clear hk
    have hx : a.eval c = .bool b := hx
    rcases brK_ok hkb with ⟨rfl, hk⟩ | ⟨rfl, hk⟩ <;> clear hkb
    · exact wpIn_cond_true hx (ih1 hr1 _ h hk)
    · exact wpIn_cond_false hx (ih2 hr2 _ h hk)
  | block id c ih =>
    intro hr Q tm mm β a w h hk
    refine wpIn_block (wpm (fun e a w hq => ?_) (ih (hr.imp (fun q => q) (fun q => q)) _ h hk))
    cases e with
    | normal => exact hq
    | exit i =>
      obtain ⟨tm, mm, β, h, hk⟩ := hq
      have hk : bif Nat.beq i id then Q .normal tm mm else Q (.exit i) tm mm := hk
      simp only [Exit.inBlock]
      by_cases e : i = id
      · subst e
        simp only [beq_self, cond_true] at hk
        rw [if_pos rfl]
        exact ⟨tm, mm, β, h, hk⟩
      · rw [if_neg e]
        simp only [beq_ne e, cond_false] at hk
        exact ⟨tm, mm, β, h, hk⟩
    | ret => exact hq
    | goto _ => exact hq.elim
    | panic _ => exact hq.elim
    | outgrown => exact hq.elim
  | scope c ih =>
    intro hr Q tm mm β a w h hk
    have hr : r = none := hr.resolve_right (by simp [rdOk])
    subst hr
    refine (wpIn_wide (n := n)).2 (wp_scope_straight ((wpIn_wide (n := n)).1 (wpm (r := none) (fun e a w hq => ?_) (ih (.inl rfl) _ h hk))))
    cases e with
    | goto _ => exact hq.elim
    | _ => exact hq
  | rangeFunc g ps x y ih1 ih2 =>
    intro hr Q tm mm β a w h hk
    have hr : r = none := hr.resolve_right (by simp [rdOk])
    subst hr
    simp only [vc] at hk
    split at hk
    · exact rf_sound hc hs h hk
    · exact hk.elim
  | loop c ih =>
    intro hr Q tm mm β a w h hk
    simp only [vc] at hk
    have hk : ∃ L, loopR (dsts c) (fun Q tm mm => vc cx c Q tm mm) L Q tm mm := by
      split at hk
      · obtain ⟨L, hk⟩ := hk; exact ⟨L, hk⟩
      · exact ⟨_, hk⟩
    obtain ⟨⟨ι, nils, vars, mem, inv, init, meas, bnils⟩, hk⟩ := hk
    simp only [loopR] at hk
    obtain ⟨tm0, mm0, β0', h0, hk⟩ := nilsK_ok nils h hk
    obtain ⟨tm1, mm1, β1, h1, ⟨hinv⟩, hv, hm, hk⟩ := bnilsK_ok bnils h0 hk
    simp only [havocK_eq, appT_eq, updM_eq] at hk
    refine wp_loop_rel (R := fun n a w => ∃ x β, inv x ∧ meas x = n ∧ SRep cx W0 ok0 S0 β0 (vars x ++ havoc (keysT (vars init) (dsts c)) tm1) (updMM (mem x) mm1) β a w) (n := meas init)
      ⟨init, β1, hinv, rfl, h1.head hv hm (fun t => (lkT_havoc tm1 (keysT (vars init) (dsts c)) t).imp id Eq.symm) (fun k => .inr (.inr rfl))⟩ fun n a w ⟨x, β, hix, hn, hx⟩ => ?_
    refine wpm (fun e a w hq => ?_) (ih (hr.imp (fun q => q) (fun q => q)) _ hx (hk x hix))
    cases e with
    | normal =>
      obtain ⟨tm', mm', β', h', y, ⟨hiy, hlt⟩, hv', hm', hgt, hgm⟩ := hq
      obtain ⟨p, q, ⟨hpq⟩, ht⟩ := gatherT_ok _ hgt
      obtain ⟨p', q', ⟨hpq'⟩, hmm⟩ := gatherM_ok _ _ hgm
      refine ⟨meas y, by omega, y, β', hiy, rfl, h'.head hv' hm' (ht hpq) (fun k => ?_)⟩
      rcases hmm hpq' k with h2 | h2 | h2
      · exact .inl ((inL_iff k _).1 h2)
      · exact .inr (.inl h2)
      · exact .inr (.inr h2)
    | exit i => exact hq
    | ret => exact hq
    | goto _ => exact hq.elim
    | panic _ => exact hq.elim
    | outgrown => exact hq.elim
  | _ => exact fun hr Q {tm mm β a w} h hk => hk.elim
end
end Go.Proofs.YtgdcefohfebleaaDoor.V
/- A function does what vcF shows. -/
set_option linter.unusedVariables false
set_option linter.unusedSimpArgs false
set_option linter.unusedSectionVars false
namespace Go.Proofs.YtgdcefohfebleaaDoor.V
open Go Go.RowKit

section
variable {P : Program} {cx : Cx} {W0 : World} {ok0 S0 : Nat → Prop} {β0 : Nat → Ent} {tm : TM} {mm : MM} {β : Nat → Ent} {a : Act} {w : World}

theorem allGe_iff (n : Nat) : ∀ l : List Nat, allGe n l = true → ∀ c ∈ l, n ≤ c
  | [], _, c, h => by cases h
  | d :: r, h, c, hc => by
    simp only [allGe] at h
    cases hb : Nat.ble n d with
    | false => rw [hb] at h; cases h
    | true =>
      rw [hb] at h
      rcases List.mem_cons.1 hc with rfl | hc
      · exact Nat.le_of_ble_eq_true hb
      · exact allGe_iff n r h c hc
/-- The blocks that a function hands back, told under the keys that its caller sees. -/
theorem expK_ok {W : World} {hs ks : List Nat} {mm' : MM} {r : AV} {K : MM → AV → Prop} (hk : expK hs ks mm' r K) (h : MS W ok0 S0 β0 mm' β w) (hge : ∀ c ∈ hs, V.hk ≤ c) (hn : hs.Nodup) (hlt : ∀ c ∈ ks, c < V.hk) (hkn : ks.Nodup)
    {v : Value} (hr : r.rep w (okB W ok0 S0 mm' β w) β v) : ∃ mm2 β2 r2, K mm2 r2 ∧ MS W ok0 S0 β0 mm2 β2 w ∧ r2.rep w (okB W ok0 S0 mm2 β2 w) β2 v := by
  unfold expK at hk
  obtain ⟨f, gg, hk, hf1, hg2, hfg, n, hf2, hg1⟩ := zipK_ok _ _ hk
  obtain ⟨nw, hk, hn1, hn2, hn3⟩ := numK_ok _ _ hk
  have hk := catR_ok _ _ hk
  have rev : ∀ (l : RN) (K : RN → Prop), revK l K → K (l.map fun x => (x.2, x.1)) := by
    intro l
    induction l with
    | nil => exact fun _ h => h
    | cons x l ih => exact fun K h => ih (fun l => K ((x.2, x.1) :: l)) h
  have hk := rev _ _ hk
  -- who is told as whom
  let g2 : RN := (f ++ nw).map fun x => (x.2, x.1)
  have hfl : f.length = hs.length := by have := congrArg List.length hf1; simpa using this
  have hfs : f.map Prod.snd = hs := by
    rw [hf2]
    refine List.take_of_length_le ?_
    have := congrArg List.length hf2
    simp only [List.length_map, List.length_take] at this
    omega
  have hff : ∀ c h, (c, h) ∈ f → c = h := by
    have : ∀ (f : RN) (hs : List Nat), f.map Prod.fst = hs → f.map Prod.snd = hs → ∀ c h, (c, h) ∈ f → c = h := by
      intro f
      induction f with
      | nil => exact fun _ _ _ c h hm => by cases hm
      | cons x f ih =>
        intro hs h1 h2 c h hm
        cases hs with
        | nil => cases h1
        | cons y hs =>
          simp only [List.map_cons, List.cons.injEq] at h1 h2
          rcases List.mem_cons.1 hm with e | e
          · subst e; exact h1.1.trans h2.1.symm
          · exact ih hs h1.2 h2.2 c h e
    exact this f hs hf1 hfs
  have hfh : ∀ c h, (c, h) ∈ f → V.hk ≤ h := fun c h hm => hge h (by rw [← hfs]; exact List.mem_map.2 ⟨_, hm, rfl⟩)
  have hnk : ∀ i c, (i, c) ∈ nw → c < V.hk := fun i c hm => hlt c (by rw [← hn1]; exact List.mem_map.2 ⟨_, hm, rfl⟩)
  have hg2m : ∀ c h, (c, h) ∈ g2 → (c, h) ∈ f ∨ (h, c) ∈ nw := by
    intro c h hm
    simp only [g2, List.map_append, List.mem_append, List.mem_map, Prod.mk.injEq] at hm
    rcases hm with ⟨⟨x, y⟩, hm, e1, e2⟩ | ⟨⟨x, y⟩, hm, e1, e2⟩
    · simp only at e1 e2
      subst e1 e2
      have := hff _ _ hm
      subst this
      exact .inl hm
    · simp only at e1 e2
      subst e1 e2
      exact .inr hm
  have hg2n : (g2.map Prod.fst).Nodup ∧ (g2.map Prod.snd).Nodup := by
    have e1 : g2.map Prod.fst = f.map Prod.snd ++ nw.map Prod.snd := by simp [g2]; rfl
    have e2 : g2.map Prod.snd = f.map Prod.fst ++ nw.map Prod.fst := by simp [g2]; rfl
    rw [e1, e2, hfs, hf1, hn1]
    refine ⟨List.nodup_append.2 ⟨hn, hkn, fun x hx y hy e => ?_⟩, List.nodup_append.2 ⟨hn, hn3, fun x hx y hy e => ?_⟩⟩
    · subst e; have := hge x hx; have := hlt x hy; omega
    · subst e
      obtain ⟨⟨i, c⟩, hm, e⟩ := List.mem_map.1 hy
      have h1 := hge x hx
      have h2 := (hn2 i c hm).2
      simp only at e
      omega
  let β2 : Nat → Ent := fun k => bif Nat.blt k V.hk then (match rn k nw with
    | some c => β c
    | none => β k) else β k
  have hβ2 : ∀ c h, (c, h) ∈ g2 → β2 h = β c := by
    intro c h hm
    rcases hg2m c h hm with hm | hm
    · have h1 := hfh c h hm
      have h2 := hff c h hm
      subst h2
      show (bif Nat.blt c V.hk then _ else β c) = β c
      cases hb : Nat.blt c V.hk with
      | false => rfl
      | true => rw [Nat.blt_eq] at hb; omega
    · have h1 := (hn2 h c hm).2
      show (bif Nat.blt h V.hk then (match rn h nw with | some c => β c | none => β h) else β h) = β c
      rw [show Nat.blt h V.hk = true from by rw [Nat.blt_eq]; exact h1, rn_of hn3 hm]
      rfl
  have hfx : ∀ k, V.hk ≤ k → β2 k = β k := fun k h1 => by
    show (bif Nat.blt k V.hk then _ else β k) = β k
    cases hb : Nat.blt k V.hk with
    | false => rfl
    | true => rw [Nat.blt_eq] at hb; omega
  have hb : ∀ k c, rn k g2 = some c → β2 c = β k := fun k c hr => hβ2 k c (rn_mem hr)
  obtain ⟨m, hk, hT, hgone⟩ := handK_ok (w := w) (ok := okB W ok0 S0 mm' β w) (β := β) (β' := β2) hb g2 (fun c h hm => hβ2 c h hm) hg2n.2 hk
  obtain ⟨r2, hk, hr2, _⟩ := renK_ok (w := w) (ok := okB W ok0 S0 mm' β w) (β := β) (β' := β2) hb r _ hk
  have hlive : ∀ k, live m β2 k → ∃ c, (c, k) ∈ g2 ∧ live mm' β c ∧ β2 k = β c := by
    intro k hlv
    by_cases hin : ∃ c, (c, k) ∈ g2
    · obtain ⟨c, hcf⟩ := hin
      exact ⟨c, hcf, (hT c k hcf).lives.1 hlv, hβ2 c k hcf⟩
    · have := hgone k (fun c hcf => hin ⟨c, hcf⟩)
      unfold live at hlv
      rw [this] at hlv
      exact hlv.elim
  have hok : ∀ b, okB W ok0 S0 mm' β w b → okB W ok0 S0 m β2 w b := fun b hb => ⟨hb.1, hb.2.1, fun k hlv e => by
    obtain ⟨c, h1, h2, h3⟩ := hlive k hlv
    rw [h3] at e
    exact hb.2.2 c h2 e⟩
  refine ⟨m, β2, r2, hk, ?_, AV.rep_mono (fun _ _ => rfl) hok _ (fun _ _ => rfl) (hr2 v hr)⟩
  exact {
    me := fun k => by
      by_cases hin : ∃ c, (c, k) ∈ g2
      · obtain ⟨c, hcf⟩ := hin
        exact BlkRep.mono _ ((hT c k hcf).rep (h.me c)) (fun _ _ => rfl) hok rfl (fun _ => rfl) (fun _ _ _ _ => rfl)
      · rw [hgone k (fun c hcf => hin ⟨c, hcf⟩)]; trivial
    inj := fun j k hj hk' e => by
      obtain ⟨c, h1, h2, h3⟩ := hlive j hj
      obtain ⟨c', h1', h2', h3'⟩ := hlive k hk'
      rw [h3, h3'] at e
      obtain rfl := h.inj c c' h2 h2' e
      have e1 := rn_of hg2n.1 h1
      rw [rn_of hg2n.1 h1'] at e1
      exact (Option.some.inj e1).symm
    ow := fun k hk' => by
      obtain ⟨c, h1, h2, h3⟩ := hlive k hk'
      rw [h3]; exact h.ow c h2
    fr := h.fr
    fx := fun k hk' => (hfx k hk').trans (h.fx k hk') }

/-! ### results -/
theorem resK_ok (h : SRep cx W0 ok0 S0 β0 tm mm β a w) (hc : Cok P cx W0 ok0 S0) : ∀ (l : List ResultVar) {K : List AV → Prop}, resK cx l tm mm K → ∃ xs vs, K xs ∧ AV.reps w (okB W0 ok0 S0 mm β w) β xs vs ∧
    (l.mapM fun r => match r with
      | .tmp t => pure (a.tmps.getD t undef)
      | .cell x t => do loadVar t (← asAddr (a.tmps.getD x undef)) : Sem (List Value)).run P w = .ok vs w
  | [], K, hk => ⟨[], [], hk, rfl, by simp⟩
  | .tmp t :: r, K, hk => by
    simp only [resK, lkK_eq] at hk
    obtain ⟨xs, vs, hk, h1, h2⟩ := resK_ok h hc r hk
    refine ⟨_, _, hk, ⟨_, vs, rfl, h.tm t, h1⟩, ?_⟩
    rw [List.mapM_cons]
    simp only [Sem.run_bind, Sem.run_pure, Result.andThen_ok]
    rw [h2]; rfl
  | .cell x t :: r, K, hk => by
    simp only [resK, lkK_eq] at hk
    obtain ⟨x', v', hr, hx', hk⟩ := loadK_ok h hc hk (h.tm x)
    have hr := hr w (below_self w)
    obtain ⟨xs, vs, hk, h1, h2⟩ := resK_ok h hc r hk
    refine ⟨_, _, hk, ⟨_, vs, rfl, hx', h1⟩, ?_⟩
    have hr2 : (do loadVar t (← asAddr (a.tmps.getD x undef)) : Sem Value).run P w = .ok v' w := by
      unfold Instr.loadAt at hr
      generalize a.tmps.getD x undef = p at hr ⊢
      cases p with
      | pointer q =>
        cases q with
        | none => simp [Instr.sureAddr] at hr
        | some q => simpa [Instr.sureAddr, asAddr] using hr
      | _ => simp [Instr.sureAddr] at hr
    rw [List.mapM_cons]
    simp only [Sem.run_bind]
    simp only [Sem.run_bind] at hr2
    rw [hr2]
    simp only [Result.andThen_ok, Sem.run_bind]
    rw [h2]; rfl
theorem results_ok (h : SRep cx W0 ok0 S0 β0 tm mm β a w) (hc : Cok P cx W0 ok0 S0) {fn : Func} {K : AV → Prop} (hk : resK cx fn.results.toList tm mm fun l => oneK l K) :
    ∃ x v, K x ∧ x.rep w (okB W0 ok0 S0 mm β w) β v ∧ (results fn a.tmps).run P w = .ok v w := by
  obtain ⟨xs, vs, hk, hr, hrun⟩ := resK_ok h hc _ hk
  have hrun2 : (results fn a.tmps).run P w = .ok (if h : vs.toArray.size = 1 then vs.toArray[0] else .tuple vs.toArray) w := by
    unfold results
    rw [Array.mapM_eq_mapM_toList, Sem.run_bind]
    rw [map_eq_pure_bind, Sem.run_bind]
    erw [hrun]
    simp
  unfold oneK at hk
  split at hk
  · rename_i x
    obtain ⟨v, rest, rfl, hx, hrest⟩ := hr
    have hrest : rest = [] := hrest
    subst hrest
    exact ⟨x, v, hk, hx, by rw [hrun2]; simp⟩
  · rename_i hne
    refine ⟨.tup xs, .tuple vs.toArray, hk, ⟨vs, rfl, hr⟩, ?_⟩
    rw [hrun2, dif_neg]
    intro h1
    have := reps_len xs hr
    match xs, hne with
    | [], _ => simp at this; simp [this] at h1
    | [x], hne => exact hne x rfl
    | x :: y :: r, _ => simp at this h1; omega

def ent : Nat → List AV → TM
  | _, [] => []
  | j, a :: r => (j, a) :: ent (j + 1) r
theorem entT_eq : ∀ (l : List AV) (j : Nat) (K : TM → Prop), entT j l K = K (ent j l)
  | [], j, K => rfl
  | a :: r, j, K => by simp only [entT, ent, entT_eq r]
theorem ent_ok {ok : Nat → Prop} : ∀ (l : List AV) {vs : List Value} (j t : Nat), AV.reps w ok β l vs → (lkT t (ent j l) = .top ∧ (t < j ∨ j + vs.length ≤ t)) ∨ (j ≤ t ∧ ∃ v, vs[t - j]? = some v ∧ (lkT t (ent j l)).rep w ok β v)
  | [], vs, j, t, h => by
    rw [show vs = [] from h]
    refine .inl ⟨rfl, ?_⟩
    simp; omega
  | x :: r, vs, j, t, ⟨v, rest, e, h1, h2⟩ => by
    subst e
    simp only [ent, lkT]
    by_cases ht : t = j
    · subst ht
      refine .inr ⟨Nat.le_refl _, v, by simp, ?_⟩
      simpa using h1
    · rw [beq_ne ht]
      rcases ent_ok r (j + 1) t h2 with ⟨h3, h4⟩ | ⟨h3, u, h4, h5⟩
      · exact .inl ⟨h3, by simp; omega⟩
      · refine .inr ⟨by omega, u, ?_, h5⟩
        rw [show t - j = t - (j + 1) + 1 by omega]
        simpa using h4
/-- What is known of the types. -/
structure Tok (P : Program) (cx : Cx) : Prop where
  mix : P.follows .mixedOrders = true
  tb : ∀ t ti, cx.tb t = some ti → TIok P t ti
  eqa : ∀ t ti, cx.eqt t = true → cx.tb t = some ti → EqAgg P t ti.zero
/-- On the way out: the marks are passed, their blocks shut. -/
theorem leaves_ok {fn : Func} {tmps : Array Value} {tm : TM} {mm : MM} {β : Nat → Ent} {R : Ending → World → Prop} (hend : ∀ w, SRep cx W0 ok0 S0 β0 tm mm β { tmps := tmps, defers := [] } w → ∃ v, (results fn tmps).run P w = .ok v w ∧ R (.returned v) w) :
    ∀ (rs : List Nat) {w : World}, rs.Nodup → (∀ r ∈ rs, W0.heap.size ≤ r ∧ w.heap[r]? = some (.deferred (some []))) → SRep cx W0 ok0 S0 β0 tm mm β { tmps := tmps, defers := [] } w →
      LeavesInM Fence.wide 0 P fn tmps R (rs.map (fun r => { target := .collected r, args := #[] })) .returning w
  | [], w, _, _, h => by
    obtain ⟨v, h1, h2⟩ := hend w h
    exact ⟨v, h1, h2⟩
  | r :: rs, w, hn, hm, h => by
    rw [List.nodup_cons] at hn
    obtain ⟨h1, h2⟩ := hm r (by simp)
    have h3 := h.close rfl h1 h2 (w.putObj r (.deferred none)) rfl rfl rfl (by simp) (fun b hb => World.putObj_heap_other hb)
    refine ⟨by simp, .inl ⟨r, _, rfl, run_takeDeferred h2, leaves_ok hend rs hn.2 (fun q hq => ?_) h3⟩⟩
    obtain ⟨h4, h5⟩ := hm q (List.mem_cons_of_mem _ hq)
    exact ⟨h4, by rw [World.putObj_heap_other (fun e : q = r => hn.1 (by rw [← e]; exact hq))]; exact h5⟩
theorem does_of {g : FuncId} {fn : Func} (hf : P.funcs[g]? = some fn) (hnt : cx.nt = fn.ntmps) (ht : Tok P cx) (hs : Sok P cx) {args : List AV} {mm0 : MM} {ks : List Nat} {post : MM → AV → Prop} (hv : vcF cx fn args mm0 ks post) : Does P cx.gl g args mm0 post := by
  unfold vcF at hv
  cases hb : (Nat.ble (lenL args) cx.nt && (allGe hk (keys mm0) && nodupB (keys mm0) && (allLt hk ks && nodupB ks))) with
  | false => simp only [hb, cond_false] at hv
  | true =>
  simp only [hb, cond_true] at hv
  simp only [Bool.and_eq_true] at hb
  obtain ⟨hb1, ⟨hb2, hb3⟩, hb4, hb5⟩ := hb
  split at hv
  case h_2 => exact hv.elim
  rename_i c hbody
  rw [entT_eq] at hv
  intro W β ok0 vs hgl hms hargs
  have hlen : vs.length ≤ fn.ntmps := by
    rw [reps_len _ hargs, ← lenL_eq, ← hnt]; exact Nat.le_of_ble_eq_true hb1
  have hc : Cok P cx W ok0 (S0of mm0 β) := ⟨ht.tb, ht.eqa, fun g m f hg => by
    obtain ⟨h1, h2, h3⟩ := hgl g m f hg
    exact ⟨h1, h2.1, h2.2, h3⟩⟩
  have h0 : SRep cx W ok0 (S0of mm0 β) β (ent 0 args) mm0 β { tmps := vs.toArray ++ Array.replicate (fn.ntmps - vs.toArray.size) undef, defers := [] } W := {
    nt := by simp [hnt]; omega
    df := Marks.nil _ _
    tm := fun t => by
      rcases ent_ok args 0 t hargs with ⟨h1, _⟩ | ⟨_, v, h1, h2⟩
      · rw [h1]; trivial
      · have hlt : t < vs.length := by have := (List.getElem?_eq_some_iff.1 h1).1; omega
        have : (vs.toArray ++ Array.replicate (fn.ntmps - vs.toArray.size) undef).getD t undef = v := by
          rw [Array.getD_eq_getD_getElem?, Array.getElem?_append_left (by simpa using hlt)]
          simp only [List.getElem?_toArray]
          rw [Nat.sub_zero] at h1
          rw [h1]; rfl
        simp only [this]
        exact h2
    me := hms.me
    inj := hms.inj
    ow := hms.ow
    fr := hms.fr
    fx := hms.fx }
  refine callsIn_wide.1 (callsIn_of_wp_marks (F := Fence.wide) (n := 0) hf hbody trivial (wpm (r := none) (fun e a w hq => ?_) (vc_sound ht.mix hc hs none 0 c (.inl rfl) _ h0 hv)))
  have fin : ∀ (tm : TM) (mm : MM) (β' : Nat → Ent), SRep cx W ok0 (S0of mm0 β) β tm mm β' a w → (resK cx fn.results.toList tm mm fun l => oneK l fun r => expK (keys mm0) ks mm r post) →
      LeavesInM Fence.wide 0 P fn a.tmps (fun e w' => match e with
        | .returned v => ∃ mm' β' r, post mm' r ∧ MS W ok0 (S0of mm0 β) β mm' β' w' ∧ r.rep w' (okB W ok0 (S0of mm0 β) mm' β' w') β' v
        | _ => False) a.defers .returning w := by
    intro tm mm β' h hk
    obtain ⟨rs, e1, e2, e3⟩ := h.df
    rw [e2]
    refine leaves_ok (tm := tm) (mm := mm) (β := β') (fun w h => ?_) rs e1 e3 { nt := h.nt, df := Marks.nil _ _, tm := h.tm, me := h.me, inj := h.inj, ow := h.ow, fr := h.fr, fx := h.fx }
    obtain ⟨x, v, hk, hr, hrun⟩ := results_ok h hc hk
    obtain ⟨mm2, β2, r2, h1, h2, h3⟩ := expK_ok hk h.ms (allGe_iff _ _ hb2) (nodupB_iff _ hb3) (allLt_iff _ _ hb4) (nodupB_iff _ hb5) hr
    exact ⟨v, hrun, mm2, β2, r2, h1, h2, h3⟩
  cases e with
  | normal => obtain ⟨tm, mm, β', h, hk⟩ := hq; exact fin tm mm β' h hk
  | ret => obtain ⟨tm, mm, β', h, hk⟩ := hq; exact fin tm mm β' h hk
  | exit i => obtain ⟨tm, mm, β', h, hk⟩ := hq; exact hk.elim
  | goto _ => exact hq.elim
  | panic _ => exact hq.elim
  | outgrown => exact hq.elim
end
end Go.Proofs.YtgdcefohfebleaaDoor.V
