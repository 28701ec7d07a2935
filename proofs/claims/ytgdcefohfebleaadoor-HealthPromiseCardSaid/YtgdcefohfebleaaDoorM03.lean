/-
  Proved here, step by step for the theorem UW: Operations that leave the world as it is: structs built, binary and unary operations.; Binary and unary operations put together; the greater and the smaller of two.; Operations that make new blocks, or write: the state behind them.; make, slice literals, values that become data.; Stores.
  Conditions: those that stand in each theorem.
-/
import Derived.Laws.Sem
import Derived.Laws.MakeOwn
import Derived.Deep.Upon
import Derived.Laws.CopyRow
import Derived.Test.YtgdcefohfebleaaDoorM02
/- Operations that leave the world as it is: structs built, binary and unary operations. -/
set_option linter.unusedVariables false
set_option linter.unusedSimpArgs false
namespace Go.Proofs.YtgdcefohfebleaaDoor.V
open Go Go.RowKit

section
variable {P : Program} {cx : Cx} {W0 : World} {ok0 S0 : Nat → Prop} {β0 : Nat → Ent} {tm : TM} {mm : MM} {β : Nat → Ent} {a : Act} {w : World} {o : Oper} {Q : Exit → Act → World → Prop} {K : TM → MM → Prop}

/-- A value that isn't an aggregate has one cell. -/
theorem cellsK_ok {ok : Nat → Prop} {x : AV} {K : List AV → Prop} (hk : cellsK x K) {v : Value} (hx : x.rep w ok β v) : ∃ cs vs, AV.reps w ok β cs vs ∧ v.cells = vs.toArray ∧ (∀ u ∈ vs, one u = true) ∧ (∀ l, x = .agg l → cs = l) ∧ ((∀ l, x ≠ .agg l) → cs = [x] ∧ vs = [v] ∧ one v = true) ∧ K cs := by
  unfold cellsK at hk
  split at hk
  · obtain ⟨vs, rfl, ho, hr⟩ := hx
    exact ⟨_, vs, hr, rfl, ho, fun _ e => by cases e; rfl, fun h => absurd rfl (h _), hk⟩
  · exact hk.elim
  · exact hk.elim
  · exact hk.elim
  · exact hk.elim
  · rename_i h1 h2 h3 h4 h5
    have hone : one v = true ∧ v.cells = #[v] := by
      cases x with
      | top => exact absurd rfl h2
      | tup l => exact absurd rfl (h3 l)
      | agg l => exact absurd rfl (h1 l)
      | d x =>
        cases x with
        | v y =>
          have hx : v = y := hx
          subst hx
          cases v <;> first | exact ⟨rfl, rfl⟩ | exact absurd rfl (h4 _) | exact absurd rfl (h5 _)
        | ints k l => obtain ⟨A, c, rfl, _⟩ := hx; exact ⟨rfl, rfl⟩
        | bools l => obtain ⟨A, c, rfl, _⟩ := hx; exact ⟨rfl, rfl⟩
        | strs l => obtain ⟨A, c, rfl, _⟩ := hx; exact ⟨rfl, rfl⟩
        | gen k n el => obtain ⟨A, c, rfl, _⟩ := hx; exact ⟨rfl, rfl⟩
        | fn i g n caps => obtain ⟨vs, rfl, _⟩ := hx; exact ⟨rfl, rfl⟩
        | ep m f => obtain ⟨ad, rfl, _⟩ := hx; exact ⟨rfl, rfl⟩
      | ep m f => obtain ⟨ad, rfl, _⟩ := hx; exact ⟨rfl, rfl⟩
      | bp b j => have hx : v = _ := hx; subst hx; exact ⟨rfl, rfl⟩
      | rp b k i j => have hx : v = _ := hx; subst hx; exact ⟨rfl, rfl⟩
      | own b n =>
        have hx : Ent.own _ _ v := hx
        unfold Ent.own at hx
        split at hx
        · obtain ⟨_, A, rfl⟩ := hx; exact ⟨rfl, rfl⟩
        · obtain ⟨rfl, _⟩ := hx; exact ⟨rfl, rfl⟩
      | seg b k off n => obtain ⟨A, c, rfl, _⟩ := hx; exact ⟨rfl, rfl⟩
      | full x => obtain ⟨_, A, n, rfl⟩ := hx; exact ⟨rfl, rfl⟩
      | fn g l => obtain ⟨vs, rfl, _⟩ := hx; exact ⟨rfl, rfl⟩
      | clo i g l => obtain ⟨vs, rfl, _⟩ := hx; exact ⟨rfl, rfl⟩
      | yl k T l => have hx := hx.1; subst hx; exact ⟨rfl, rfl⟩
    exact ⟨[x], [v], ⟨v, [], rfl, hx, rfl⟩, hone.2, fun u hu => by rw [List.mem_singleton.1 hu]; exact hone.1, fun l e => absurd e (h1 l), fun _ => ⟨rfl, rfl, hone.1⟩, hk⟩

theorem replK_ok {ok : Nat → Prop} {K : List AV → Prop} : ∀ (j : Nat) (xs cs : List AV) {us vs : List Value}, replK j xs cs K → AV.reps w ok β xs us → AV.reps w ok β cs vs →
    ∃ cs', K cs' ∧ AV.reps w ok β cs' (vs.take j ++ us ++ vs.drop (j + us.length)) ∧ j + us.length ≤ vs.length
  | 0, [], cs, us, vs, hk, hu, hv => by
    obtain rfl : us = [] := hu
    exact ⟨cs, by simpa [replK] using hk, by simpa using hv, by simp⟩
  | 0, x :: xs, [], us, vs, hk, hu, hv => by simp [replK] at hk
  | 0, x :: xs, c :: cs, us, vs, hk, hu, hv => by
    obtain ⟨u, us, rfl, hx, hu⟩ := hu
    obtain ⟨v, vs, rfl, hc, hv⟩ := hv
    simp only [replK] at hk
    obtain ⟨cs', hk, hr, hl⟩ := replK_ok 0 xs cs hk hu hv
    refine ⟨x :: cs', hk, ⟨u, _, ?_, hx, hr⟩, by simp at hl ⊢; omega⟩
    simp
  | j + 1, xs, [], us, vs, hk, hu, hv => by
    cases xs <;> simp [replK] at hk
  | j + 1, xs, c :: cs, us, vs, hk, hu, hv => by
    obtain ⟨v, vs, rfl, hc, hv⟩ := hv
    simp only [replK] at hk
    obtain ⟨cs', hk, hr, hl⟩ := replK_ok j xs cs hk hu hv
    refine ⟨c :: cs', hk, ⟨v, _, ?_, hc, hr⟩, by simp at hl ⊢; omega⟩
    simp [show j + 1 + us.length = j + us.length + 1 by omega]
theorem lenL_eq : ∀ l : List AV, lenL l = l.length
  | [] => rfl
  | _ :: r => by simp [lenL, lenL_eq r]

/-- What partsK gathers: the parts' cells and values. -/
def PartsRep (w : World) (ok : Nat → Prop) (β : Nat → Ent) (a : Act) : List (Nat × Operand) → List (Nat × List AV) → Prop
  | [], [] => True
  | (i, x) :: r, (j, cs) :: s => i = j ∧ (∃ vs, AV.reps w ok β cs vs ∧ (a.eval x).cells = vs.toArray ∧ ∀ u ∈ vs, one u = true) ∧ PartsRep w ok β a r s
  | _, _ => False
theorem partsK_ok (h : SRep cx W0 ok0 S0 β0 tm mm β a w) (hc : Cok P cx W0 ok0 S0) : ∀ (ps : List (Nat × Operand)) {K : List (Nat × List AV) → Prop}, partsK cx tm ps K → ∃ qs, PartsRep w (okB W0 ok0 S0 mm β w) β a ps qs ∧ K qs
  | [], K, hk => ⟨[], trivial, hk⟩
  | (i, x) :: r, K, hk => by
    obtain ⟨x', hx, hk⟩ := evK_ok h hc x _ hk
    obtain ⟨cs, vs, hr, hv, ho, _, _, hk⟩ := cellsK_ok hk hx
    obtain ⟨qs, hq, hk⟩ := partsK_ok h hc r hk
    exact ⟨(i, cs) :: qs, ⟨rfl, ⟨vs, hr, hv, ho⟩, hq⟩, hk⟩
theorem foldl_setL : ∀ (us : List Value) (cs : Array Value) (off k : Nat), off + k + us.length ≤ cs.size →
    (us.zipIdx k).foldl (fun cs (c, j) => cs.setIfInBounds (off + j) c) cs = (cs.toList.take (off + k) ++ us ++ cs.toList.drop (off + k + us.length)).toArray
  | [], cs, off, k, _ => by simp
  | u :: us, cs, off, k, hl => by
    have hl' : off + (k + 1) + us.length ≤ (cs.setIfInBounds (off + k) u).size := by simp at hl ⊢; omega
    rw [List.zipIdx_cons, List.foldl_cons, foldl_setL us _ off (k + 1) hl']
    congr 1
    simp only [Array.toList_setIfInBounds]
    have hk : off + k < cs.toList.length := by simp at hl ⊢; omega
    have h1 : ((cs.toList.set (off + k) u).take (off + (k + 1))) = cs.toList.take (off + k) ++ [u] := by
      rw [show off + (k + 1) = off + k + 1 by omega, List.take_succ_eq_append_getElem (by simpa using hk), List.getElem_set_self, List.take_set_of_le (Nat.le_refl _)]
    have h2 : (cs.toList.set (off + k) u).drop (off + (k + 1) + us.length) = cs.toList.drop (off + k + (us.length + 1)) := by
      rw [List.drop_set_of_lt (by omega)]
      congr 1
      omega
    rw [h1, h2]
    simp
theorem foldl_set (us : List Value) (cs : Array Value) (off : Nat) (hl : off + us.length ≤ cs.size) :
    us.toArray.zipIdx.foldl (fun cs (c, j) => cs.setIfInBounds (off + j) c) cs = (cs.toList.take off ++ us ++ cs.toList.drop (off + us.length)).toArray := by
  rw [← Array.foldl_toList, Array.toList_zipIdx]
  exact foldl_setL us cs off 0 hl
theorem run_mapM {α γ : Type} {f : α → Sem γ} {g : α → γ} {w : World} : ∀ (l : List α), (∀ x ∈ l, (f x).run P w = .ok (g x) w) → (l.mapM f).run P w = .ok (l.map g) w
  | [], _ => by simp
  | x :: r, h => by
    rw [List.mapM_cons]
    simp [h x (by simp), run_mapM r (fun y hy => h y (by simp [hy]))]
theorem run_mapMA {α γ : Type} {f : α → Sem γ} {g : α → γ} {w : World} (l : Array α) (h : ∀ x ∈ l, (f x).run P w = .ok (g x) w) : (l.mapM f).run P w = .ok (l.map g) w := by
  rw [Array.mapM_eq_mapM_toList]
  have := run_mapM (P := P) (w := w) (f := f) (g := g) l.toList (fun x hx => h x (by simpa using hx))
  rw [map_eq_pure_bind]
  simp [this]
  rw [← Array.toList_map]
theorem run_places {fs : Array Field} (h : ∀ f : Field, f ∈ fs → (P.info? f.type).isSome = true) :
    (fs.mapM fun f : Field => do pure (f.offset, ← sizeOf f.type) : Sem (Array (Nat × Nat))).run P w = .ok (fs.map fun f => (f.offset, P.cellsOf f.type)) w := by
  refine run_mapMA fs fun f hf => ?_
  obtain ⟨i, hi⟩ := Option.isSome_iff_exists.1 (h f hf)
  simp [run_size hi, Program.cellsOf, hi]
theorem fill_ok {ok : Nat → Prop} {offs : List (Nat × Nat × Bool)} {place : Nat → Option (Nat × Nat)} (hp : ∀ j off size ag, offs[j]? = some (off, size, ag) → place j = some (off, size)) {K : List AV → Prop} :
    ∀ (ps : List (Nat × Operand)) (qs : List (Nat × List AV)) (cs : List AV) (vs : List Value), PartsRep w ok β a ps qs → AV.reps w ok β cs vs → (∀ u ∈ vs, one u = true) → fillK offs qs cs K →
      ∃ cs' vs', Instr.fill place vs.toArray (ps.map fun (i, x) => (i, a.eval x)) = some vs'.toArray ∧ AV.reps w ok β cs' vs' ∧ (∀ u ∈ vs', one u = true) ∧ K cs'
  | [], [], cs, vs, _, hr, ho, hk => ⟨cs, vs, rfl, hr, ho, hk⟩
  | [], _ :: _, _, _, h, _, _, _ => h.elim
  | _ :: _, [], _, _, h, _, _, _ => h.elim
  | (i, x) :: ps, (j, xs) :: qs, cs, vs, hq, hr, ho0, hk => by
    obtain ⟨rfl, ⟨us, hu, hv, ho1⟩, hq⟩ := hq
    simp only [fillK] at hk
    obtain ⟨⟨off, size, ag⟩, ho, hk⟩ := nthK_ok _ _ hk
    simp only at hk
    cases hs : Nat.beq (lenL xs) size with
    | false => rw [hs] at hk; exact hk.elim
    | true =>
      simp only [hs, cond_true] at hk
      have hs' : us.length = size := by rw [reps_len _ hu, ← lenL_eq]; exact Nat.eq_of_beq_eq_true hs
      obtain ⟨cs2, hk, hr2, hl⟩ := replK_ok off xs cs hk hu hr
      obtain ⟨cs3, vs3, hf, hr3, ho3, hk3⟩ := fill_ok hp ps qs cs2 _ hq hr2 (fun v hv => by
        rcases List.mem_append.1 hv with hv | hv
        · rcases List.mem_append.1 hv with hv | hv
          · exact ho0 v (List.mem_of_mem_take hv)
          · exact ho1 v hv
        · exact ho0 v (List.mem_of_mem_drop hv)) hk
      refine ⟨cs3, vs3, ?_, hr3, ho3, hk3⟩
      simp only [List.map_cons, Instr.fill, hp _ _ _ _ ho]
      rw [if_neg (by rw [hv]; simp; omega)]
      rw [← hf, hv, foldl_set us vs.toArray off (by simpa using hl)]
theorem op_build (h : SRep cx W0 ok0 S0 β0 tm mm β a w) (hc : Cok P cx W0 ok0 S0) (t : TypeId) (ps : Array (Nat × Operand)) (ho : o.op = .build t ps)
    (hk : buildK cx t ps.toList tm fun a => putK cx o.dst a tm fun tm => K tm mm) : GoesP P cx W0 ok0 S0 β0 o a w mm β K := by
  unfold buildK at hk
  split at hk
  · exact hk.elim
  rename_i ti hti
  have T := hc.tb t ti hti
  cases hkd : Nat.beq ti.kind 1 with
  | false => rw [hkd] at hk; exact hk.elim
  | true =>
    simp only [hkd, cond_true] at hk
    rw [dvsK_eq] at hk
    obtain ⟨qs, hq, hk⟩ := partsK_ok h hc _ hk
    obtain ⟨fs, hu, hf⟩ := T.str (Nat.eq_of_beq_eq_true hkd)
    obtain ⟨hoffs, hinf⟩ := T.strl (Nat.eq_of_beq_eq_true hkd) fs hu
    obtain ⟨cs, vs, hfill, hr, ho3, hk⟩ := fill_ok (place := fun i => (fs.map fun f : Field => (f.offset, P.cellsOf f.type))[i]?) (fun j off size ag hj => by
      rw [hoffs] at hj
      simp only [List.getElem?_map, Option.map_eq_some_iff, Prod.mk.injEq] at hj
      obtain ⟨f, hf1, rfl, rfl, _⟩ := hj
      simp at hf1
      simp [hf1]) ps.toList qs (dvs ti.zero) ti.zero hq (reps_dvs _) T.ones hk
    refine goes_put h (v := .agg vs.toArray) ?_ hk ⟨vs, rfl, ho3, hr⟩
    intro w2 _
    obtain ⟨z, hz, hzc⟩ := T.zv (w := w2)
    have run : (Instr.build t (ps.map fun (i, x) => (i, a.eval x))).run P w2 = .ok (.agg vs.toArray) w2 := by
      unfold Instr.build
      simp only [Sem.run_bind, Sem.run_pure, hz, Result.andThen_ok, run_underlying hu, hzc]
      have hpl := run_places (P := P) (w := w2) hinf
      rw [hpl]
      simp only [Result.andThen_ok, Array.toList_map]
      rw [hfill]
      simp
    simp only [execOp, ho]
    simp [run]
end
end Go.Proofs.YtgdcefohfebleaaDoor.V
/- Binary and unary operations put together; the greater and the smaller of two. -/
set_option linter.unusedVariables false
set_option linter.unusedSimpArgs false
namespace Go.Proofs.YtgdcefohfebleaaDoor.V
open Go Go.RowKit

section
variable {P : Program} {cx : Cx} {W0 : World} {ok0 S0 : Nat → Prop} {β0 : Nat → Ent} {tm : TM} {mm : MM} {β : Nat → Ent} {a : Act} {w : World} {o : Oper} {Q : Exit → Act → World → Prop} {K : TM → MM → Prop}

theorem eqCells_ok {ok : Nat → Prop} : ∀ (z : List Value) (l m : List AV) {us vs : List Value} {K : Prop → Prop}, eqCells z l m K → AV.reps w ok β l us → AV.reps w ok β m vs →
    kinds z us ∧ kinds z vs ∧ ∃ p : Prop, (eqv us vs = true ↔ p) ∧ K p
  | [], [], [], us, vs, K, h, hu, hv => by
    obtain rfl : us = [] := hu
    obtain rfl : vs = [] := hv
    exact ⟨trivial, trivial, True, by simp [eqv], h⟩
  | .int k _ :: z, .d (.v (.int k1 x)) :: r, .d (.v (.int k2 y)) :: s, us, vs, K, h, hu, hv => by
    obtain ⟨u, us, rfl, hx, hu⟩ := hu
    obtain ⟨v, vs, rfl, hy, hv⟩ := hv
    have hx : u = .int k1 x := hx
    have hy : v = .int k2 y := hy
    subst hx hy
    obtain ⟨⟨h1, h2⟩, h⟩ := h
    obtain ⟨a1, a2, p, hp, hk⟩ := eqCells_ok z r s h hu hv
    exact ⟨⟨h1, a1⟩, ⟨h2, a2⟩, _, by simp [eqv, hp], hk⟩
  | .bool _ :: z, .d (.v (.bool x)) :: r, .d (.v (.bool y)) :: s, us, vs, K, h, hu, hv => by
    obtain ⟨u, us, rfl, hx, hu⟩ := hu
    obtain ⟨v, vs, rfl, hy, hv⟩ := hv
    have hx : u = .bool x := hx
    have hy : v = .bool y := hy
    subst hx hy
    obtain ⟨a1, a2, p, hp, hk⟩ := eqCells_ok z r s h hu hv
    exact ⟨a1, a2, _, by simp [eqv, hp], hk⟩
  | .string _ :: z, .d (.v (.string x)) :: r, .d (.v (.string y)) :: s, us, vs, K, h, hu, hv => by
    obtain ⟨u, us, rfl, hx, hu⟩ := hu
    obtain ⟨v, vs, rfl, hy, hv⟩ := hv
    have hx : u = .string x := hx
    have hy : v = .string y := hy
    subst hx hy
    obtain ⟨a1, a2, p, hp, hk⟩ := eqCells_ok z r s h hu hv
    exact ⟨a1, a2, _, by simp [eqv, hp], hk⟩
/-- What a binary operation on told values comes to. -/
theorem bin_ok (hc : Cok P cx W0 ok0 S0) (op : BinOp) (t : TypeId) (x y : Operand) (raw : Bool) {ok : Nat → Prop} {p q : AV} {K : AV → Prop}
    (hk : binK cx raw op t p q K) {u v : Value} (hp : p.rep w ok β u) (hq : q.rep w ok β v) :
    ∃ r, (∀ w, (do eqGuard op t x y u v; binOp op t u v : Sem Value).run P w = .ok r w) ∧ K (.d (.v r)) := by
  have plain : ∀ {r : Value}, (∀ cs, u ≠ .agg cs) → u ≠ .nilIface → (∀ w, (binOp op t u v).run P w = .ok r w) → ∀ w, (do eqGuard op t x y u v; binOp op t u v : Sem Value).run P w = .ok r w := by
    intro r h1 h2 h3 w
    simp [guard_none h1 h2, h3]
  unfold binK at hk
  split at hk
  · have hp : u = _ := hp
    have hq : v = _ := hq
    subst hp hq
    obtain ⟨r, hr, hk⟩ := binInt_ok hk t
    exact ⟨r, plain (fun _ => by simp) (by simp) hr, hk⟩
  · have hp : u = _ := hp
    have hq : v = _ := hq
    subst hp hq
    obtain ⟨r, hr, hk⟩ := binStr_ok hk t
    exact ⟨r, plain (fun _ => by simp) (by simp) hr, hk⟩
  · have hp : u = _ := hp
    have hq : v = _ := hq
    subst hp hq
    unfold boolB at hk
    split at hk
    · exact hk.elim
    rename_i ti hti
    cases hkd : Nat.beq ti.kind 5 with
    | false => rw [hkd] at hk; exact hk.elim
    | true =>
      simp only [hkd, cond_true] at hk
      have hu := (hc.tb t ti hti).bo (Nat.eq_of_beq_eq_true hkd)
      split at hk
      · exact ⟨_, plain (fun _ => by simp) (by simp) (fun w => by first | (simp [binOp, Op.equal, Op.maxDepth, run_equalIn_bool' w 9999 t _ _ hu]; done) | (simp [binOp, Op.equal, Op.maxDepth, run_equalIn_bool' w 9999 t _ _ hu]; rfl)), hk⟩
      · exact ⟨_, plain (fun _ => by simp) (by simp) (fun w => by first | (simp [binOp, Op.equal, Op.maxDepth, run_equalIn_bool' w 9999 t _ _ hu]; done) | (simp [binOp, Op.equal, Op.maxDepth, run_equalIn_bool' w 9999 t _ _ hu]; rfl)), hk⟩
      · exact hk.elim
  · have hq : v = _ := hq
    subst hq
    obtain ⟨e, te, hu, T, hk⟩ := ewK_ok hc hk
    obtain ⟨hs, hk⟩ := lenK_ok hk
    obtain ⟨A, c, rfl, _, hA⟩ := sl_form hs hp
    obtain ⟨r, hr, hk⟩ := nilEq_ok hk hu (A := A) (c := c) hA
    exact ⟨r, plain (fun _ => by simp) (by simp) hr, hk⟩
  · have hq : v = _ := hq
    subst hq
    obtain ⟨e, te, hu, T, hk⟩ := ewK_ok hc hk
    have hp : Ent.own _ _ u := hp
    unfold Ent.own at hp
    split at hp
    · obtain ⟨rfl, A, rfl⟩ := hp
      obtain ⟨r, hr, hk⟩ := nilEq_ok hk hu (A := A) (c := 0) (fun _ => rfl)
      exact ⟨r, plain (fun _ => by simp) (by simp) hr, hk⟩
    · obtain ⟨rfl, _⟩ := hp
      obtain ⟨r, hr, hk⟩ := nilEq_ok hk hu (A := some ⟨_, 0, none⟩) (fun h => by cases h)
      exact ⟨r, plain (fun _ => by simp) (by simp) hr, hk⟩
  · split at hk
    · rename_i ti hti
      cases he : cx.eqt t with
      | false => rw [he] at hk; exact hk.elim
      | true =>
        rw [he] at hk
        obtain ⟨us, rfl, _, hu⟩ := hp
        obtain ⟨vs, rfl, _, hv⟩ := hq
        obtain ⟨k1, k2, p, hpp, hk⟩ := eqCells_ok _ _ _ hk hu hv
        have hk := hk (eqv us vs) hpp
        have E := hc.eqa t ti he hti
        have hg : ∀ w, (eqGuard op t x y (.agg us.toArray) (.agg vs.toArray)).run P w = .ok () w := fun w => run_eqGuard_agg w op t x y _ _ E.gd
        split at hk
        · exact ⟨_, fun w => by first | (simp [hg, binOp, E.run w us vs k1 k2]; done) | (simp [hg, binOp, E.run w us vs k1 k2]; rfl), hk⟩
        · exact ⟨_, fun w => by first | (simp [hg, binOp, E.run w us vs k1 k2]; done) | (simp [hg, binOp, E.run w us vs k1 k2]; rfl), hk⟩
        · exact hk.elim
    · exact hk.elim
  · exact hk.elim
theorem op_binOp (h : SRep cx W0 ok0 S0 β0 tm mm β a w) (hc : Cok P cx W0 ok0 S0) (op : BinOp) (t yt : TypeId) (x y : Operand) (ho : o.op = .binOp op t x y yt)
    (hk : evK cx x tm fun a => evK cx y tm fun b => binK cx (match o.dst with | some d => cx.wm d | none => false) op t a b fun r => putK cx o.dst r tm fun tm => K tm mm) : GoesP P cx W0 ok0 S0 β0 o a w mm β K := by
  obtain ⟨p, hp, hk⟩ := evK_ok h hc x _ hk
  obtain ⟨q, hq, hk⟩ := evK_ok h hc y _ hk
  obtain ⟨r, hr, hk⟩ := bin_ok hc op t x y _ hk hp hq
  exact goes_put h (fun w2 _ => by simp only [execOp, ho]; rw [Sem.run_bind, hr]; rfl) hk rfl
theorem un_ok {raw : Bool} {op : UnOp} {p : AV} {K : AV → Prop} (hk : unK raw op p K) {ok : Nat → Prop} {u : Value} (hp : p.rep w ok β u) : ∃ r, (∀ w, (Op.unary op u).run P w = .ok r w) ∧ K (.d (.v r)) := by
  unfold unK at hk
  split at hk
  · have hp : u = _ := hp
    subst hp
    exact ⟨_, fun _ => rfl, hk⟩
  · have hp : u = _ := hp
    subst hp
    exact ⟨_, fun _ => rfl, arithK_ok hk⟩
  · exact hk.elim
theorem op_unOp (h : SRep cx W0 ok0 S0 β0 tm mm β a w) (hc : Cok P cx W0 ok0 S0) (op : UnOp) (t : TypeId) (x : Operand) (ho : o.op = .unOp op t x)
    (hk : evK cx x tm fun a => unK (match o.dst with | some d => cx.wm d | none => false) op a fun r => putK cx o.dst r tm fun tm => K tm mm) : GoesP P cx W0 ok0 S0 β0 o a w mm β K := by
  obtain ⟨p, hp, hk⟩ := evK_ok h hc x _ hk
  obtain ⟨r, hr, hk⟩ := un_ok (P := P) hk hp
  exact goes_put h (fun w2 _ => by simp [execOp, ho, hr]) hk rfl
end
end Go.Proofs.YtgdcefohfebleaaDoor.V
/- Operations that make new blocks, or write: the state behind them. -/
set_option linter.unusedVariables false
set_option linter.unusedSimpArgs false
namespace Go.Proofs.YtgdcefohfebleaaDoor.V
open Go Go.RowKit

section
variable {P : Program} {cx : Cx} {W0 : World} {ok0 S0 : Nat → Prop} {β0 : Nat → Ent} {tm : TM} {mm : MM} {β : Nat → Ent} {a : Act} {w : World} {o : Oper} {Q : Exit → Act → World → Prop} {K : TM → MM → Prop}

/-- What a new block is to hold. -/
def NewRep (w : World) (ok : Nat → Prop) (β : Nat → Ent) (e : TypeId) (cap : Nat) (vs : List Value) : ABlk → Prop
  | .gone => False
  | .lp _ => False
  | .box cs => AV.reps w ok β cs vs ∧ ∀ v ∈ vs, one v = true
  | .row e' r => e' = e ∧ r.isSl = true ∧ vs.length = cap * r.width ∧ r.len ≤ cap ∧ ∀ i, i < r.len → ∀ j, j < r.width → ∃ u, vs[i * r.width + j]? = some u ∧ one u = true ∧ (r.cell i j).rep w ok u

theorem below_drew (w : World) : Below w.heap.size w w.drew := ⟨rfl, rfl, rfl, Nat.le_refl _, fun _ _ => rfl⟩
theorem SRep.drew (h : SRep cx W0 ok0 S0 β0 tm mm β a w) : SRep cx W0 ok0 S0 β0 tm mm β a w.drew := h.below (below_drew w)
theorem SRep.same (h : SRep cx W0 ok0 S0 β0 tm mm β a w) {mm' : MM} (e : ∀ k, lkM k mm' = lkM k mm) : SRep cx W0 ok0 S0 β0 tm mm' β a w := by
  have hl : ∀ k, live mm' β k ↔ live mm β k := fun k => by unfold live; rw [e]
  have ho : ∀ b, okB W0 ok0 S0 mm β w b → okB W0 ok0 S0 mm' β w b := fun b hb => ⟨hb.1, hb.2.1, fun k hk => hb.2.2 k ((hl k).1 hk)⟩
  exact {
    nt := h.nt
    df := h.df
    tm := fun t => AV.rep_mono (fun _ _ => rfl) ho _ (fun _ _ => rfl) (h.tm t)
    me := fun k => by rw [e]; exact BlkRep.mono _ (h.me k) (fun _ _ => rfl) ho rfl (fun _ => rfl) (fun _ _ _ _ => rfl)
    inj := fun j k hj hk => h.inj j k ((hl j).1 hj) ((hl k).1 hk)
    ow := fun k hk => h.ow k ((hl k).1 hk)
    fr := h.fr
    fx := h.fx }

/-- Key d is told anew, at a new block. -/
theorem SRep.renew (h : SRep cx W0 ok0 S0 β0 tm mm β a w) {d : Nat} (hdk : d < hk) (x : ABlk) (vs : List Value) (e : TypeId) (cap : Nat) (hx : NewRep w (okB W0 ok0 S0 mm β w) β e cap vs x) :
    ∃ β' : Nat → Ent, β' d = ⟨w.heap.size, cap, false⟩ ∧ SRep cx W0 ok0 S0 β0 (killTM d tm) ((d, x.kill d) :: killMM d mm) β' a (w.alloc (.cells vs.toArray e)) := by
  have hk := h.kill d
  have hok0 : ∀ b, okB W0 ok0 S0 mm β w b → okB W0 ok0 S0 (killMM d mm) β w b := fun b => (okB_kill d b).2
  have hokl : ∀ b, okB W0 ok0 S0 mm β w b → (w.alloc (.cells vs.toArray e)).heap[b]? = w.heap[b]? := fun b hb => Below.heap_alloc w _ b hb.1
  obtain ⟨β', h1, h2, h3, h4⟩ := hk.new hdk (noRef_kill d tm mm) (x.kill d) (.cells vs.toArray e) cap _ rfl (fun ok' β' ho hd hne => by
    cases x with
    | gone => exact hx.elim
    | lp r => exact hx.elim
    | box cs =>
      refine ⟨vs, e, by rw [hd]; exact heap_alloc_new w _, ?_, hx.2⟩
      refine AV.reps_mono hokl (fun b hb => ho b (hok0 b hb)) _ (fun c hc => hne c (AV.kills_refs d _ c hc)) (AV.kills_rep d _ hx.1)
    | row e' r =>
      obtain ⟨rfl, hs, hl, hc, hcell⟩ := hx
      refine ⟨hs, ?_⟩
      rw [if_neg (by rw [hd]; simp)]
      refine ⟨vs, by rw [hd]; exact heap_alloc_new w _, by rw [hd]; exact hl, by rw [hd]; exact hc, fun i hi j hj => ?_⟩
      obtain ⟨u, hu, h1u, hr⟩ := hcell i hi j hj
      exact ⟨u, hu, h1u, DV.rep_mono hokl (fun b hb => ho b (hok0 b hb)) _ hr⟩) (by cases x <;> simp [ABlk.kill, NewRep] at hx ⊢)
  exact ⟨β', h1, h4⟩
theorem newK_ok (h : SRep cx W0 ok0 S0 β0 tm mm β a w) {d : Nat} {x : ABlk} {av : AV} {v : Value} (hk : newK cx (some d) x av tm mm K) (vs : List Value) (e : TypeId) (cap : Nat)
    (hx : NewRep w (okB W0 ok0 S0 mm β w) β e cap vs x) (hv : ∀ (w' : World) (ok' : Nat → Prop) (β' : Nat → Ent), β' d = ⟨w.heap.size, cap, false⟩ → av.rep w' ok' β' v) :
    ∃ tm' mm' β', SRep cx W0 ok0 S0 β0 tm' mm' β' (a.put (some d) v) (w.alloc (.cells vs.toArray e)) ∧ K tm' mm' := by
  unfold newK at hk
  simp only [killT_eq, killM_eq] at hk
  cases hdk : Nat.blt d V.hk with
  | false => simp only [hdk, cond_false] at hk
  | true =>
  simp only [hdk, cond_true] at hk
  obtain ⟨β', h1, h2⟩ := h.renew (d := d) (by simpa [Nat.blt_eq] using hdk) x vs e cap hx
  have hput : ∀ K' : TM → Prop, putK cx (some d) av (killTM d tm) K' → ∃ tm', SRep cx W0 ok0 S0 β0 tm' ((d, x.kill d) :: killMM d mm) β' (a.put (some d) v) (w.alloc (.cells vs.toArray e)) ∧ K' tm' :=
    fun K' hk => putK_ok h2 hk (hv _ _ _ h1)
  cases x with
  | gone => exact hx.elim
  | lp r => exact hx.elim
  | box cs =>
    obtain ⟨tm', h', hk'⟩ := hput _ hk
    simp only [AV.killsK_eq] at hk'
    exact ⟨tm', _, β', h', hk'⟩
  | row e' r =>
    obtain ⟨tm', h', hk'⟩ := hput _ hk
    exact ⟨tm', _, β', h', hk'⟩
/-- Key d is an empty row that has no block yet. -/
theorem SRep.empty (h : SRep cx W0 ok0 S0 β0 tm mm β a w) {d : Nat} (hdk : d < hk) (e : TypeId) (r : DV) (hs : r.isSl = true) (hl : r.len = 0) :
    ∃ β' : Nat → Ent, (β' d).nil = true ∧ SRep cx W0 ok0 S0 β0 (killTM d tm) ((d, .row e r) :: killMM d mm) β' a w := by
  let β' : Nat → Ent := fun k => if k = d then ⟨0, 0, true⟩ else β k
  have hβd : β' d = ⟨0, 0, true⟩ := by simp [β']
  have hβk : ∀ k, k ≠ d → β' k = β k := fun k hk => by simp [β', hk]
  have hn : ¬ live ((d, .row e r) :: killMM d mm) β' d := by unfold live; simp [lkM, ABlk.lives, hβd]
  have hlv : ∀ k, live ((d, .row e r) :: killMM d mm) β' k → k ≠ d ∧ live mm β k := fun k hk => by
    have hne : k ≠ d := fun e => by subst e; exact hn hk
    exact ⟨hne, (live_kill d k).1 ((live_cons hne (hβk k hne)).1 hk)⟩
  have hok : ∀ b, okB W0 ok0 S0 mm β w b → okB W0 ok0 S0 ((d, .row e r) :: killMM d mm) β' w b := fun b hb => ⟨hb.1, hb.2.1, fun k hk => by
    obtain ⟨hne, hl⟩ := hlv k hk
    rw [hβk k hne]; exact hb.2.2 k hl⟩
  have hok2 : ∀ b, okB W0 ok0 S0 (killMM d mm) β w b → okB W0 ok0 S0 ((d, .row e r) :: killMM d mm) β' w b := fun b hb => hok b ((okB_kill d b).1 hb)
  have hk := h.kill d
  have hr := noRef_kill d tm mm
  refine ⟨β', by rw [hβd], ?_⟩
  exact {
    nt := h.nt
    df := h.df
    tm := fun t => AV.rep_mono (fun _ _ => rfl) hok2 _ (fun c hc => hβk c (hr.1 t c hc)) (hk.tm t)
    me := fun k => by
      rw [lkM_cons]
      split
      · rename_i hkd; subst hkd; exact ⟨hs, by rw [if_pos (by rw [hβd])]; exact hl⟩
      · rename_i hkd
        exact BlkRep.mono _ (hk.me k) (fun _ _ => rfl) hok2 (hβk k hkd) (fun _ => rfl) (fun cs hcs c hc => hβk c (hr.2 k cs hcs c hc))
    inj := fun j k hj hk' e => by
      obtain ⟨h1, h2⟩ := hlv j hj
      obtain ⟨h3, h4⟩ := hlv k hk'
      rw [hβk j h1, hβk k h3] at e
      exact h.inj j k h2 h4 e
    ow := fun k hk' => by
      obtain ⟨h1, h2⟩ := hlv k hk'
      rw [hβk k h1]; exact h.ow k h2
    fr := h.fr
    fx := fun k hk' => (hβk k (by omega)).trans (h.fx k hk') }

/-! ### new variables -/
theorem op_alloc (h : SRep cx W0 ok0 S0 β0 tm mm β a w) (hc : Cok P cx W0 ok0 S0) (t : TypeId) (ho : o.op = .alloc t)
    (hk : match cx.tb t with
    | some ti => dvsK ti.zero fun cs => match o.dst with
      | some d => newK cx (some d) (.box cs) (.bp d 0) tm mm K
      | none => False
    | none => False) : GoesC P cx W0 ok0 S0 β0 o a w true Q K := by
  split at hk
  · rename_i ti hti
    have T := hc.tb t ti hti
    rw [dvsK_eq] at hk
    split at hk
    · rename_i d hd
      obtain ⟨z, hz, hzc⟩ := T.zv (w := w)
      obtain ⟨tm', mm', β', h', hk'⟩ := newK_ok h (v := .pointer (some ⟨w.heap.size, 0, none⟩)) hk ti.zero t 0 ⟨reps_dvs _, T.ones⟩ (fun w' ok' β' hb => by simp only [AV.rep, hb])
      refine goesC_val (v := .pointer (some ⟨w.heap.size, 0, none⟩)) ?_ (fun _ => below_alloc _ _) ⟨tm', mm', β', by rw [hd]; exact h', hk'⟩
      simp only [execOp, ho]
      simp [Instr.alloc, hz, newVar, newRow, hzc]
    · exact hk.elim
  · exact hk.elim
theorem op_box (h : SRep cx W0 ok0 S0 β0 tm mm β a w) (hc : Cok P cx W0 ok0 S0) (t : TypeId) (x : Operand) (ho : o.op = .box t x)
    (hk : evK cx x tm fun a => cellsK a fun cs => match o.dst with
      | some d => newK cx (some d) (.box cs) (.bp d 0) tm mm K
      | none => False) : GoesC P cx W0 ok0 S0 β0 o a w true Q K := by
  obtain ⟨x', hx, hk⟩ := evK_ok h hc x _ hk
  obtain ⟨cs, vs, hr, hv, h1, _, _, hk⟩ := cellsK_ok hk hx
  split at hk
  · rename_i d hd
    obtain ⟨tm', mm', β', h', hk'⟩ := newK_ok h (v := .pointer (some ⟨w.heap.size, 0, none⟩)) hk vs t 0 ⟨hr, h1⟩ (fun w' ok' β' hb => by simp only [AV.rep, hb])
    refine goesC_val (v := .pointer (some ⟨w.heap.size, 0, none⟩)) ?_ (fun _ => below_alloc _ _) ⟨tm', mm', β', by rw [hd]; exact h', hk'⟩
    simp only [execOp, ho]
    simp [Instr.box, newVar, newRow, hv]
  · exact hk.elim
end
end Go.Proofs.YtgdcefohfebleaaDoor.V
/- make, slice literals, values that become data. -/
set_option linter.unusedVariables false
set_option linter.unusedSimpArgs false
set_option linter.unusedSectionVars false
namespace Go.Proofs.YtgdcefohfebleaaDoor.V
open Go Go.RowKit

section
variable {P : Program} {cx : Cx} {W0 : World} {ok0 S0 : Nat → Prop} {β0 : Nat → Ent} {tm : TM} {mm : MM} {β : Nat → Ent} {a : Act} {w : World} {o : Oper} {Q : Exit → Act → World → Prop} {K : TM → MM → Prop}

theorem getD_rep {α : Type} (z d : α) (n i : Nat) (h : i < n) : (List.replicate n z).getD i d = z := by
  simp [List.getD_eq_getElem?_getD, List.getElem?_replicate, h]
theorem zerosDV_ok {zero : List Value} {n : Nat} {K : DV → Prop} (h : zerosDV zero n K) :
    ∃ r : DV, K r ∧ r.isSl = true ∧ r.width = zero.length ∧ r.len = n ∧ ∀ (w : World) (ok : Nat → Prop) (i j : Nat), i < n → j < zero.length → (r.cell i j).rep w ok (zero.getD j undef) := by
  unfold zerosDV at h
  split at h
  · rename_i k z
    refine ⟨_, h, rfl, rfl, by simp [DV.len], fun w ok i j hi hj => ?_⟩
    obtain rfl : j = 0 := by simp at hj; omega
    simp only [DV.cell, getD_rep z 0 n i hi]; rfl
  · rename_i z
    refine ⟨_, h, rfl, rfl, by simp [DV.len], fun w ok i j hi hj => ?_⟩
    obtain rfl : j = 0 := by simp at hj; omega
    simp only [DV.cell, getD_rep z false n i hi]; rfl
  · rename_i z
    refine ⟨_, h, rfl, rfl, by simp [DV.len], fun w ok i j hi hj => ?_⟩
    obtain rfl : j = 0 := by simp at hj; omega
    simp only [DV.cell, getD_rep z ByteArray.empty n i hi]; rfl
  · exact ⟨_, h, rfl, rfl, rfl, fun w ok i j hi hj => rfl⟩
theorem made_get (zero : List Value) (n i j : Nat) (hi : i < n) (hj : j < zero.length) : (madeCells zero.toArray (n * zero.length)).toList[i * zero.length + j]? = some (zero.getD j undef) := by
  have hlt : i * zero.length + j < n * zero.length := by
    calc i * zero.length + j < i * zero.length + zero.length := by omega
      _ = (i + 1) * zero.length := by rw [Nat.add_mul]; omega
      _ ≤ n * zero.length := Nat.mul_le_mul_right _ hi
  have hm : (i * zero.length + j) % zero.length = j := by rw [Nat.mul_comm, Nat.mul_add_mod]; exact Nat.mod_eq_of_lt hj
  simp [madeCells, hlt, hm, List.getD_eq_getElem?_getD, hj]
theorem makeSliceK_ok (h : SRep cx W0 ok0 S0 β0 tm mm β a w) (hc : Cok P cx W0 ok0 S0) {dd : Option Nat} {t : TypeId} {kl kc : IntKind} {l c : Int} (hk : makeSliceK cx dd t l c tm mm K) :
    ∃ v w' tm' mm' β', (Instr.makeSlice t (.int kl l) (.int kc c)).run P w = .ok v w' ∧ Below w.heap.size w w' ∧ SRep cx W0 ok0 S0 β0 tm' mm' β' (a.put dd v) w' ∧ K tm' mm' := by
  unfold makeSliceK at hk
  obtain ⟨e, te, hu, T, ⟨⟨h1, h2, h3, h4⟩⟩, hk⟩ := ewK_ok hc hk
  obtain ⟨r, hk, hs, hw, hl, hz⟩ := zerosDV_ok hk
  split at hk
  · rename_i d
    obtain ⟨i, z, hi1, hi2, hi3, hi4, hi5⟩ := T.info
    have hmb : c * te.bytes ≤ 140737488355328 := h3
    have hc0 : c ≤ c * te.bytes := by
      have : (1 : Int) ≤ te.bytes := by omega
      calc c = c * 1 := by omega
        _ ≤ c * te.bytes := Int.mul_le_mul_of_nonneg_left this (by omega)
    have hr := run_make (P := P) w t e i z hu hi1 hi4 kl kc l c h1 h2 (by rw [hi3, Int.mul_comm]; omega) (by omega)
    obtain ⟨tm', mm', β', h', hk'⟩ := newK_ok h (v := .slice (some ⟨w.heap.size, 0, none⟩) l.toNat c.toNat) hk (madeCells z.cells (c.toNat * i.size)).toList e c.toNat
      ⟨rfl, hs, by rw [Array.length_toList, size_madeCells, hi2, hw, T.len], by rw [hl]; omega, fun i' hi' j hj => by
        rw [hl] at hi'
        rw [hw] at hj ⊢
        refine ⟨_, by rw [hi5, hi2, ← T.len]; exact made_get te.zero c.toNat i' j (by omega) hj, ?_, hz _ _ i' j hi' hj⟩
        rw [List.getD_eq_getElem?_getD, List.getElem?_eq_getElem hj]; exact T.ones _ (List.getElem_mem hj)⟩ (fun w' ok' β' hb => by
          simp only [AV.rep, Ent.own, hb]
          simp
          omega)
    exact ⟨_, _, tm', mm', β', hr, below_alloc _ _, by simpa using h', hk'⟩
  · exact hk.elim

/-! ### a row becomes data -/
section frz
variable {ok ok' : Nat → Prop} {b : Nat} {r : DV} (ho : ∀ c, ok c → ok' c) (hr : ∀ v, (β b).own r.len v → r.rep w ok' v)
include ho hr
mutual
theorem subK_ok : ∀ (x : AV) (K : AV → Prop), AV.subK b r x K → ∃ x', K x' ∧ ∀ v, x.rep w ok β v → x'.rep w ok' β v
  | .top, K, h => ⟨_, h, fun v hv => AV.rep_mono (fun _ _ => rfl) ho _ (fun _ _ => rfl) hv⟩
  | .d x, K, h => ⟨_, h, fun v hv => AV.rep_mono (fun _ _ => rfl) ho _ (fun _ _ => rfl) hv⟩
  | .ep m f, K, h => ⟨_, h, fun v hv => AV.rep_mono (fun _ _ => rfl) ho _ (fun _ _ => rfl) hv⟩
  | .full x, K, h => ⟨_, h, fun v hv => AV.rep_mono (fun _ _ => rfl) ho _ (fun _ _ => rfl) hv⟩
  | .bp c j, K, h => by
    simp only [AV.subK] at h
    cases hb : Nat.beq b c <;> simp only [hb, cond_true, cond_false] at h
    · exact ⟨_, h, fun v hv => AV.rep_mono (fun _ _ => rfl) ho _ (fun _ _ => rfl) hv⟩
    · exact ⟨_, h, fun v hv => trivial⟩
  | .rp c _ _ _, K, h => by
    simp only [AV.subK] at h
    cases hb : Nat.beq b c <;> simp only [hb, cond_true, cond_false] at h
    · exact ⟨_, h, fun v hv => AV.rep_mono (fun _ _ => rfl) ho _ (fun _ _ => rfl) hv⟩
    · exact ⟨_, h, fun v hv => trivial⟩
  | .own c n, K, h => by
    simp only [AV.subK] at h
    cases hb : Nat.beq b c <;> simp only [hb, cond_true, cond_false] at h
    · exact ⟨_, h, fun v hv => AV.rep_mono (fun _ _ => rfl) ho _ (fun _ _ => rfl) hv⟩
    · obtain ⟨⟨hn⟩, h⟩ := h
      refine ⟨_, h, fun v hv => ?_⟩
      have hv : (β c).own n v := hv
      rw [hn, ← Nat.eq_of_beq_eq_true hb] at hv
      exact hr v hv
  | .seg c _ _ _, K, h => by
    simp only [AV.subK] at h
    cases hb : Nat.beq b c <;> simp only [hb, cond_true, cond_false] at h
    · exact ⟨_, h, fun v hv => AV.rep_mono (fun _ _ => rfl) ho _ (fun _ _ => rfl) hv⟩
    · exact ⟨_, h, fun v hv => trivial⟩
  | .agg l, K, h => by
    obtain ⟨l', hk, hl⟩ := subsK_ok l _ h
    exact ⟨_, hk, fun v ⟨vs, e, h1, h2⟩ => ⟨vs, e, h1, hl vs h2⟩⟩
  | .fn g l, K, h => by
    obtain ⟨l', hk, hl⟩ := subsK_ok l _ h
    exact ⟨_, hk, fun v ⟨vs, e, h2⟩ => ⟨vs, e, hl vs h2⟩⟩
  | .clo i g l, K, h => by
    obtain ⟨l', hk, hl⟩ := subsK_ok l _ h
    exact ⟨_, hk, fun v ⟨vs, e, h2⟩ => ⟨vs, e, hl vs h2⟩⟩
  | .yl c T l, K, h => by
    simp only [AV.subK] at h
    cases hb : Nat.beq b c <;> simp only [hb, cond_true, cond_false] at h
    · obtain ⟨l', hk, hl⟩ := subsK_ok l _ h
      exact ⟨_, hk, fun v ⟨e, h2⟩ => ⟨e, hl T h2⟩⟩
    · exact ⟨_, h, fun v hv => trivial⟩
  | .tup l, K, h => by
    obtain ⟨l', hk, hl⟩ := subsK_ok l _ h
    exact ⟨_, hk, fun v ⟨vs, e, h2⟩ => ⟨vs, e, hl vs h2⟩⟩
theorem subsK_ok : ∀ (x : List AV) (K : List AV → Prop), AV.subsK b r x K → ∃ x', K x' ∧ ∀ vs, AV.reps w ok β x vs → AV.reps w ok' β x' vs
  | [], K, h => ⟨[], h, fun vs hv => hv⟩
  | a :: l, K, h => by
    obtain ⟨a', h1, ha⟩ := subK_ok a _ h
    obtain ⟨l', hk, hl⟩ := subsK_ok l _ h1
    exact ⟨_, hk, fun vs ⟨v, rest, e, h2, h3⟩ => ⟨v, rest, e, ha v h2, hl rest h3⟩⟩
end
theorem subT_ok : ∀ (x : TM) (K : TM → Prop), subT b r x K → ∃ x', K x' ∧ ∀ t v, (lkT t x).rep w ok β v → (lkT t x').rep w ok' β v
  | [], K, h => ⟨[], h, fun t v hv => trivial⟩
  | (u, a) :: l, K, h => by
    obtain ⟨a', h1, ha⟩ := subK_ok ho hr a _ h
    obtain ⟨l', hk, hl⟩ := subT_ok l _ h1
    refine ⟨_, hk, fun t v hv => ?_⟩
    simp only [lkT] at hv ⊢
    cases hq : Nat.beq t u <;> simp only [hq, cond_true, cond_false] at hv ⊢
    · exact hl t v hv
    · exact ha v hv
theorem subM_ok : ∀ (x : MM) (K : MM → Prop), subM b r x K → ∃ x', K x' ∧ ∀ k,
    (∀ cs, lkM k x = .box cs → ∃ cs', lkM k x' = .box cs' ∧ ∀ vs, AV.reps w ok β cs vs → AV.reps w ok' β cs' vs) ∧ (lkM k x = .gone → lkM k x' = .gone) ∧
    (∀ e y, lkM k x = .row e y → lkM k x' = if k = b then .gone else .row e y) ∧ (∀ r, lkM k x = .lp r → lkM k x' = .lp r)
  | [], K, h => ⟨[], h, fun k => ⟨fun cs h => by simp [lkM] at h, fun _ => rfl, fun e y h => (by simp [lkM] at h), fun r h => (by simp [lkM] at h)⟩⟩
  | (t, .box cs) :: l, K, h => by
    obtain ⟨a', h1, ha⟩ := subsK_ok ho hr cs _ h
    obtain ⟨l', hk, hl⟩ := subM_ok l _ h1
    refine ⟨_, hk, fun k => ?_⟩
    simp only [lkM]
    cases hkt : Nat.beq k t <;> simp only [cond_true, cond_false]
    · exact hl k
    · exact ⟨fun cs' e => (by cases e; exact ⟨_, rfl, ha⟩), fun e => (by cases e), fun e y h => (by cases h), fun r h => (by cases h)⟩
  | (t, .lp x) :: l, K, h => by
    obtain ⟨l', hk, hl⟩ := subM_ok l _ h
    refine ⟨_, hk, fun k => ?_⟩
    simp only [lkM]
    cases hkt : Nat.beq k t <;> simp only [cond_true, cond_false]
    · exact hl k
    · exact ⟨fun cs' e => (by cases e), fun e => (by cases e), fun e y h => (by cases h), fun r e => e⟩
  | (t, .gone) :: l, K, h => by
    obtain ⟨l', hk, hl⟩ := subM_ok l _ h
    refine ⟨_, hk, fun k => ?_⟩
    simp only [lkM]
    cases hkt : Nat.beq k t <;> simp only [cond_true, cond_false]
    · exact hl k
    · exact ⟨fun cs' e => (by cases e), fun _ => trivial, fun e y h => (by cases h), fun r h => (by cases h)⟩
  | (t, .row e x) :: l, K, h => by
    simp only [subM] at h
    cases hb : Nat.beq b t <;> simp only [hb, cond_true, cond_false] at h
    · obtain ⟨l', hk, hl⟩ := subM_ok l _ h
      refine ⟨_, hk, fun k => ?_⟩
      simp only [lkM]
      cases hkt : Nat.beq k t <;> simp only [cond_true, cond_false]
      · exact hl k
      · have : k ≠ b := fun e => by subst e; rw [hkt] at hb; cases hb
        exact ⟨fun cs' e => (by cases e), fun e => (by cases e), fun e y h => (by cases h; simp [this]), fun r h => (by cases h)⟩
    · obtain ⟨l', hk, hl⟩ := subM_ok l _ h
      refine ⟨_, hk, fun k => ?_⟩
      simp only [lkM]
      cases hkt : Nat.beq k t <;> simp only [cond_true, cond_false]
      · exact hl k
      · have : k = b := by rw [Nat.eq_of_beq_eq_true hkt, Nat.eq_of_beq_eq_true hb]
        exact ⟨fun cs' e => (by cases e), fun e => (by cases e), fun e y h => (by cases h; simp [this]), fun r h => (by cases h)⟩
end frz

theorem frzK_ok (h : SRep cx W0 ok0 S0 β0 tm mm β a w) {x : AV} {K : TM → MM → DV → Prop} (hk : frzK tm mm x K) {v : Value} (hx : x.rep w (okB W0 ok0 S0 mm β w) β v) :
    ∃ tm' mm' r, SRep cx W0 ok0 S0 β0 tm' mm' β a w ∧ (∀ c, okB W0 ok0 S0 mm β w c → okB W0 ok0 S0 mm' β w c) ∧ r.rep w (okB W0 ok0 S0 mm' β w) v ∧ K tm' mm' r := by
  unfold frzK at hk
  split at hk
  · exact ⟨tm, mm, _, h, fun _ h => h, hx, hk⟩
  · exact ⟨tm, mm, _, h, fun _ h => h, hx.1, hk⟩
  · rename_i b n
    obtain ⟨e, r, hb, ⟨hn⟩, hk⟩ := rowK_ok hk
    have hbm := h.me b
    rw [hb] at hbm
    -- the blocks that may be read, once b is data
    let ok' : Nat → Prop := fun c => c < w.heap.size ∧ (W0.heap.size ≤ c ∨ ok0 c ∨ S0 c) ∧ ∀ k, k ≠ b → live mm β k → (β k).blk ≠ c
    have ho : ∀ c, okB W0 ok0 S0 mm β w c → ok' c := fun c hc => ⟨hc.1, hc.2.1, fun k _ hk => hc.2.2 k hk⟩
    have hr : ∀ v, (β b).own r.len v → r.rep w ok' v := by
      intro v hv
      refine (DV.rep_sl hbm.1 v).2 ?_
      unfold Ent.own at hv
      split at hv
      · obtain ⟨h0, A, rfl⟩ := hv
        exact ⟨A, 0, by rw [h0], by omega, fun hpos => by omega⟩
      · rename_i hnil
        obtain ⟨rfl, hcap⟩ := hv
        refine ⟨_, _, rfl, hcap, fun hpos => ?_⟩
        obtain ⟨hlv, _, vs, hh, hl, hcap, hcell⟩ := row_cells h hb hpos
        refine ⟨_, rfl, ⟨(h.ow b hlv).1, (h.ow b hlv).2.elim .inl (fun h1 => .inr (.inr h1)), fun k hkb hk e => hkb (h.inj k b hk hlv e)⟩, fun i hi j hj => ?_⟩
        obtain ⟨u, hu, h1, hrep⟩ := hcell i hi j hj
        refine ⟨u, ?_, h1, DV.rep_mono (fun _ _ => rfl) ho _ hrep⟩
        rw [add_plain0, cell_heap hh]; simpa using hu
    obtain ⟨tm', hk, htm⟩ := subT_ok (β := β) (w := w) ho hr _ _ hk
    obtain ⟨mm', hk, hmm⟩ := subM_ok (β := β) (w := w) ho hr _ _ hk
    have hlv : ∀ k, live mm' β k → k ≠ b ∧ live mm β k := by
      intro k hkl
      obtain ⟨h1, h2, h3, h4⟩ := hmm k
      unfold live at hkl ⊢
      cases hq : lkM k mm with
      | gone => rw [h2 hq] at hkl; exact hkl.elim
      | lp r => exact ⟨fun e => (by rw [e, hb] at hq; cases hq), trivial⟩
      | box cs => exact ⟨fun e => (by rw [e, hb] at hq; cases hq), trivial⟩
      | row e' y =>
        rw [h3 e' y hq] at hkl
        split at hkl
        · exact hkl.elim
        · rename_i hne; exact ⟨hne, hkl⟩
    have ho' : ∀ c, ok' c → okB W0 ok0 S0 mm' β w c := fun c hc => ⟨hc.1, hc.2.1, fun k hk => hc.2.2 k (hlv k hk).1 (hlv k hk).2⟩
    have ho2 : ∀ c, okB W0 ok0 S0 mm β w c → okB W0 ok0 S0 mm' β w c := fun c hc => ho' c (ho c hc)
    refine ⟨tm', mm', r, ?_, ho2, ?_, hk⟩
    · exact {
        nt := h.nt
        df := h.df
        tm := fun t => AV.rep_mono (fun _ _ => rfl) ho' _ (fun _ _ => rfl) (htm t _ (h.tm t))
        me := fun k => by
          obtain ⟨h1, h2, h3, h4⟩ := hmm k
          have hm := h.me k
          cases hq : lkM k mm with
          | gone => rw [h2 hq]; trivial
          | lp r => rw [h4 r hq]; rw [hq] at hm; exact hm
          | box cs =>
            obtain ⟨cs', e1, hcs⟩ := h1 cs hq
            rw [hq] at hm
            obtain ⟨vs, e, hh, hrep, h1⟩ := hm
            rw [e1]
            exact ⟨vs, e, hh, AV.reps_mono (fun _ _ => rfl) ho' _ (fun _ _ => rfl) (hcs vs hrep), h1⟩
          | row e' y =>
            rw [h3 e' y hq]
            rw [hq] at hm
            split
            · trivial
            · exact BlkRep.mono _ hm (fun _ _ => rfl) ho2 rfl (fun _ => rfl) (fun _ _ _ _ => rfl)
        inj := fun j k hj hk => h.inj j k (hlv j hj).2 (hlv k hk).2
        ow := fun k hk => h.ow k (hlv k hk).2
        fr := h.fr
        fx := h.fx }
    · have hv : (β b).own n v := hx
      rw [hn] at hv
      exact DV.rep_mono (fun _ _ => rfl) ho' _ (hr v hv)
  · exact hk.elim

def dreps (w : World) (ok : Nat → Prop) : List DV → List Value → Prop
  | [], vs => vs = []
  | x :: r, vs => ∃ v rest, vs = v :: rest ∧ x.rep w ok v ∧ dreps w ok r rest
theorem dreps_mono {ok ok' : Nat → Prop} (ho : ∀ c, ok c → ok' c) : ∀ (l : List DV) {vs : List Value}, dreps w ok l vs → dreps w ok' l vs
  | [], _, h => h
  | x :: r, _, ⟨v, rest, e, h1, h2⟩ => ⟨v, rest, e, DV.rep_mono (fun _ _ => rfl) ho _ h1, dreps_mono ho r h2⟩
theorem frzsK_ok : ∀ (l : List AV) {tm : TM} {mm : MM} (h : SRep cx W0 ok0 S0 β0 tm mm β a w) {K : TM → MM → List DV → Prop} (hk : frzsK l tm mm K) {vs : List Value} (hx : AV.reps w (okB W0 ok0 S0 mm β w) β l vs),
    ∃ tm' mm' r, SRep cx W0 ok0 S0 β0 tm' mm' β a w ∧ (∀ c, okB W0 ok0 S0 mm β w c → okB W0 ok0 S0 mm' β w c) ∧ dreps w (okB W0 ok0 S0 mm' β w) r vs ∧ r.length = l.length ∧ K tm' mm' r
  | [], tm, mm, h, K, hk, vs, hx => ⟨tm, mm, [], h, fun _ h => h, hx, rfl, hk⟩
  | x :: l, tm, mm, h, K, hk, vs, hx => by
    obtain ⟨v, rest, rfl, h1, h2⟩ := hx
    obtain ⟨tm1, mm1, r, hs1, ho1, hr1, hk⟩ := frzK_ok h hk h1
    obtain ⟨tm2, mm2, rs, hs2, ho2, hr2, hl, hk⟩ := frzsK_ok l hs1 hk (AV.reps_mono (fun _ _ => rfl) ho1 _ (fun _ _ => rfl) h2)
    exact ⟨tm2, mm2, r :: rs, hs2, fun c hc => ho2 c (ho1 c hc), ⟨v, rest, rfl, DV.rep_mono (fun _ _ => rfl) ho2 _ hr1, hr2⟩, by simp [hl], hk⟩
end
end Go.Proofs.YtgdcefohfebleaaDoor.V
/- Stores. -/
set_option linter.unusedVariables false
set_option linter.unusedSimpArgs false
set_option linter.unusedSectionVars false
namespace Go.Proofs.YtgdcefohfebleaaDoor.V
open Go Go.RowKit

section
variable {P : Program} {cx : Cx} {W0 : World} {ok0 S0 : Nat → Prop} {β0 : Nat → Ent} {tm : TM} {mm : MM} {β : Nat → Ent} {a : Act} {w : World} {o : Oper} {Q : Exit → Act → World → Prop} {K : TM → MM → Prop}

theorem one_eq (v : Value) : one v = v.oneCell' := by cases v <;> rfl
theorem getD_setL {α : Type} (l : List α) (i j : Nat) (x d : α) (h : i < l.length) : (l.set i x).getD j d = if j = i then x else l.getD j d := by
  simp only [List.getD_eq_getElem?_getD, List.getElem?_set]
  by_cases hj : i = j
  · subst hj; simp [h]
  · simp [hj, Ne.symm hj]
theorem putDV_ok {r x : DV} {i j : Nat} {K : DV → Prop} (h : putDV r i j x K) (hi : i < r.len) (hj : j < r.width) :
    r.isSl = true ∧ ∃ r', K r' ∧ r'.isSl = true ∧ r'.width = r.width ∧ r'.len = r.len ∧ ∀ i' j', i' < r.len → j' < r.width → r'.cell i' j' = if i' = i ∧ j' = j then x else r.cell i' j' := by
  unfold putDV at h
  split at h
  · rename_i k l k' y
    obtain ⟨⟨rfl⟩, h⟩ := h
    refine ⟨rfl, _, h, rfl, rfl, by simp [DV.len], fun i' j' hi' hj' => ?_⟩
    have e1 : j = 0 := by simp [DV.width] at hj; exact hj
    have e2 : j' = 0 := by simp [DV.width] at hj'; exact hj'
    simp only [DV.cell, getD_setL l i i' y 0 hi, e1, e2, and_true]
    split <;> rfl
  · rename_i l y
    refine ⟨rfl, _, h, rfl, rfl, by simp [DV.len], fun i' j' hi' hj' => ?_⟩
    have e1 : j = 0 := by simp [DV.width] at hj; exact hj
    have e2 : j' = 0 := by simp [DV.width] at hj'; exact hj'
    simp only [DV.cell, getD_setL l i i' y false hi, e1, e2, and_true]
    split <;> rfl
  · rename_i l y
    refine ⟨rfl, _, h, rfl, rfl, by simp [DV.len], fun i' j' hi' hj' => ?_⟩
    have e1 : j = 0 := by simp [DV.width] at hj; exact hj
    have e2 : j' = 0 := by simp [DV.width] at hj'; exact hj'
    simp only [DV.cell, getD_setL l i i' y ByteArray.empty hi, e1, e2, and_true]
    split <;> rfl
  · refine ⟨rfl, _, h, rfl, rfl, rfl, fun i' j' hi' hj' => ?_⟩
    simp only [DV.cell]
    by_cases h1 : i' = i <;> by_cases h2 : j' = j <;> simp [h1, h2, beq_ne]
  · exact h.elim
theorem putsDV_ok {i : Nat} {K : DV → Prop} : ∀ (xs : List DV) (j : Nat) (r : DV), putsDV i j xs r K → i < r.len → j + xs.length ≤ r.width → r.isSl = true →
    ∃ r', K r' ∧ r'.isSl = true ∧ r'.width = r.width ∧ r'.len = r.len ∧ ∀ i' j', i' < r.len → j' < r.width → r'.cell i' j' = if i' = i ∧ j ≤ j' ∧ j' < j + xs.length then xs.getD (j' - j) (.v undef) else r.cell i' j'
  | [], j, r, h, _, _, hs => ⟨r, h, hs, rfl, rfl, fun i' j' _ _ => by rw [if_neg (by simp only [List.length_nil]; omega)]⟩
  | x :: xs, j, r, h, hi, hj, _ => by
    simp only [List.length_cons] at hj
    obtain ⟨_, r1, h, h1, h2, h3, h4⟩ := putDV_ok (K := fun r => putsDV i (j + 1) xs r K) h hi (by omega)
    obtain ⟨r2, hk, g1, g2, g3, g4⟩ := putsDV_ok xs (j + 1) r1 h (by omega) (by omega) h1
    refine ⟨r2, hk, g1, by omega, by omega, fun i' j' hi' hj' => ?_⟩
    rw [g4 i' j' (by omega) (by omega), h4 i' j' hi' hj']
    by_cases e : i' = i
    · subst e
      by_cases e1 : j' = j
      · subst e1
        rw [if_neg (by omega), if_pos ⟨rfl, rfl⟩, if_pos ⟨rfl, by omega, by simp⟩]
        simp
      · by_cases e2 : j + 1 ≤ j' ∧ j' < j + 1 + xs.length
        · rw [if_pos ⟨rfl, e2⟩, if_pos ⟨rfl, by omega, by simp; omega⟩]
          rw [show j' - j = j' - (j + 1) + 1 by omega, List.getD_cons_succ]
        · rw [if_neg (by simp; omega), if_neg (by simp [e1]), if_neg (by simp; omega)]
    · simp [e]
theorem dreps_get {ok : Nat → Prop} : ∀ (l : List DV) {vs : List Value}, dreps w ok l vs → l.length = vs.length ∧ ∀ j u, vs[j]? = some u → (l.getD j (.v undef)).rep w ok u
  | [], _, h => by rw [show _ = [] from h]; simp
  | x :: r, _, ⟨v, rest, e, h1, h2⟩ => by
    obtain ⟨h3, h4⟩ := dreps_get r h2
    subst e
    refine ⟨by simp [h3], fun j u hu => ?_⟩
    cases j with
    | zero => obtain rfl : v = u := by simpa using hu
              exact h1
    | succ j => exact h4 j u (by simpa using hu)

theorem seg_get {α : Type} (vs us : List α) (p m : Nat) (hl : p + us.length ≤ vs.length) : (vs.take p ++ us ++ vs.drop (p + us.length))[m]? = if p ≤ m ∧ m < p + us.length then us[m - p]? else vs[m]? := by
  by_cases h1 : m < p
  · rw [if_neg (by omega), List.append_assoc, List.getElem?_append_left (by simp; omega), List.getElem?_take, if_pos h1]
  · by_cases h2 : m < p + us.length
    · rw [if_pos ⟨by omega, h2⟩, List.append_assoc, List.getElem?_append_right (by simp; omega), List.length_take, Nat.min_eq_left (by omega), List.getElem?_append_left (by omega)]
    · rw [if_neg (by omega), List.getElem?_append_right (by simp; omega)]
      simp only [List.length_append, List.length_take, List.getElem?_drop, Nat.min_eq_left (show p ≤ vs.length by omega)]
      congr 1; omega
theorem setRow_size (w : World) (g : Nat) (cs : Array Value) : (w.setRow g cs).heap.size = w.heap.size := by
  first | simp | (unfold World.setRow; split <;> simp)
/-- A store of a value's cells at a place of a block of cells. -/
theorem run_store_at {t : TypeId} {ti : TI} (T : TIok P t ti) (w : World) (g p : Nat) (vs us : List Value) (e : TypeId) (hg : w.heap[g]? = some (.cells vs.toArray e (0, 0))) (y : Value) (hy : y.cells = us.toArray) (hl : us.length = ti.cells) (h1 : ∀ u ∈ us, one u = true)
    (hp : p + us.length ≤ vs.length) :
    (Instr.storeAt t (.pointer (some ⟨g, p, none⟩)) y).run P w = .ok () (w.setRow g (vs.take p ++ us ++ vs.drop (p + us.length)).toArray) := by
  have hst := run_storeCells_at P g p e us 0 vs.toArray w hg (by simpa using hp) (fun v hv => by rw [← one_eq]; exact h1 v hv)
  simp only [Nat.add_zero] at hst
  simp [Instr.storeAt, Instr.sureAddr, storeVar, T.size, hy, hl]
  simpa [hl] using hst
theorem storeK_ok (h : SRep cx W0 ok0 S0 β0 tm mm β a w) (hc : Cok P cx W0 ok0 S0) {t : TypeId} {x y : AV} (hk : storeK cx t x y tm mm K) {u v : Value} (hx : x.rep w (okB W0 ok0 S0 mm β w) β u) (hy : y.rep w (okB W0 ok0 S0 mm β w) β v) :
    ∃ w' tm' mm', (Instr.storeAt t u v).run P w = .ok () w' ∧ SRep cx W0 ok0 S0 β0 tm' mm' β a w' ∧ K tm' mm' := by
  unfold storeK at hk
  split at hk
  · exact hk.elim
  rename_i ti hti
  have T := hc.tb t ti hti
  obtain ⟨ys, us, hr, hv, h1, _, _, hk2⟩ := cellsK_ok hk hy
  clear hk
  cases hq : Nat.beq (lenL ys) ti.cells with
  | false => rw [hq] at hk2; exact hk2.elim
  | true =>
    simp only [hq, cond_true] at hk2
    have hul : us.length = ti.cells := by rw [reps_len _ hr, ← lenL_eq]; exact Nat.eq_of_beq_eq_true hq
    split at hk2
    · rename_i b j
      have hk := hk2
      have hx : u = _ := hx
      subst hx
      rw [getK_eq] at hk
      split at hk
      · rename_i cs hcs
        have hb := h.me b
        rw [hcs] at hb
        obtain ⟨vs, e, hh, hrc, ho⟩ := hb
        obtain ⟨cs', hk, hr', hl⟩ := replK_ok j ys cs hk hr hrc
        rw [setK_eq] at hk
        have hlv : live mm β b := by unfold live; rw [hcs]; trivial
        refine ⟨_, tm, _, run_store_at T w _ j vs us e hh v hv hul h1 hl, ?_, hk⟩
        refine h.write hlv (.box cs') _ rfl rfl rfl (setRow_size _ _ _) (fun k hk => setRow_other w _ k _ hk) (by rw [live_set, if_pos rfl]; trivial) (fun ok' ho' => ?_)
        refine ⟨_, e, setRow_heap w _ _ _ e _ hh, ?_, fun v hv => ?_⟩
        · refine AV.reps_mono (fun c hc => setRow_other w _ c _ (fun e => hc.2.2 b hlv e.symm)) ho' _ (fun _ _ => rfl) hr'
        · rcases List.mem_append.1 hv with hv | hv
          · rcases List.mem_append.1 hv with hv | hv
            · exact ho v (List.mem_of_mem_take hv)
            · exact h1 v hv
          · exact ho v (List.mem_of_mem_drop hv)
      · exact hk.elim
    · rename_i b k i j
      have hk := hk2
      have hx : u = _ := hx
      subst hx
      obtain ⟨tm', mm', xs, h', ho', hxs, hxl, hk⟩ := frzsK_ok ys h hk hr
      rw [getK_eq] at hk
      split at hk
      · rename_i e r hb
        obtain ⟨⟨hi⟩, hk⟩ := hk
        cases hq2 : (Nat.beq k r.width && Nat.ble (j + ti.cells) k) with
        | false => rw [hq2] at hk; exact hk.elim
        | true =>
          simp only [hq2, cond_true] at hk
          simp only [Bool.and_eq_true] at hq2
          have hk1 : k = r.width := Nat.eq_of_beq_eq_true hq2.1
          have hk2 := Nat.le_of_ble_eq_true hq2.2
          obtain ⟨hlv, hs, vs, hh, hvl, hcap, hcell⟩ := row_cells h' hb (by omega)
          obtain ⟨hxl2, hxg⟩ := dreps_get xs hxs
          obtain ⟨r', hk, hs', hw', hl', hc'⟩ := putsDV_ok xs j r hk hi (by omega) hs
          rw [setK_eq] at hk
          have hfit : i * k + j + us.length ≤ vs.length := by
            rw [hvl, hk1]
            calc i * r.width + j + us.length ≤ i * r.width + r.width := by omega
              _ = (i + 1) * r.width := by rw [Nat.add_mul]; omega
              _ ≤ _ := Nat.mul_le_mul_right _ (by omega)
          refine ⟨_, tm', _, run_store_at T w _ (i * k + j) vs us e hh v hv hul h1 hfit, ?_, hk⟩
          refine h'.write hlv (.row e r') _ rfl rfl rfl (setRow_size _ _ _) (fun k hk => setRow_other w _ k _ hk) (by
            rw [live_set, if_pos rfl]
            unfold live at hlv; rw [hb] at hlv; exact hlv) (fun ok' ho2 => ?_)
          refine ⟨hs', ?_⟩
          have hnil : ¬ (β b).nil = true := by unfold live at hlv; rw [hb] at hlv; simpa [ABlk.lives] using hlv
          rw [if_neg hnil]
          refine ⟨_, setRow_heap w _ _ _ e _ hh, ?_, by omega, fun i' hi' j' hj' => ?_⟩
          · rw [hw', ← hvl]; simp; omega
          · rw [hl'] at hi'
            rw [hw'] at hj' ⊢
            have hmono : ∀ (d : DV) (z : Value), d.rep w (okB W0 ok0 S0 mm' β w) z → d.rep (w.setRow (β b).blk (vs.take (i * k + j) ++ us ++ vs.drop (i * k + j + us.length)).toArray) ok' z :=
              fun d z hz => DV.rep_mono (fun c hc => setRow_other w _ c _ (fun e => hc.2.2 b hlv e.symm)) ho2 d hz
            rw [seg_get vs us _ _ hfit, hc' i' j' hi' hj']
            by_cases hin : i' = i ∧ j ≤ j' ∧ j' < j + xs.length
            · obtain ⟨rfl, hj1, hj2⟩ := hin
              rw [if_pos (by rw [hk1]; omega), if_pos ⟨rfl, hj1, hj2⟩]
              have hlt : i' * r.width + j' - (i' * k + j) < us.length := by rw [hk1]; omega
              refine ⟨_, List.getElem?_eq_getElem hlt, h1 _ (List.getElem_mem hlt), hmono _ _ ?_⟩
              rw [show j' - j = i' * r.width + j' - (i' * k + j) by rw [hk1]; omega]
              exact hxg _ _ (List.getElem?_eq_getElem hlt)
            · obtain ⟨z, hz, h1z, hrz⟩ := hcell i' hi' j' hj'
              rw [if_neg hin, if_neg (by
                rintro ⟨q1, q2⟩
                refine hin ?_
                rw [hk1] at q1 q2
                have e1 : i' = i := by
                  rcases Nat.lt_trichotomy i' i with hlt | he | hlt
                  · have : (i' + 1) * r.width ≤ i * r.width := Nat.mul_le_mul_right _ hlt
                    rw [Nat.add_mul] at this; omega
                  · exact he
                  · have : (i + 1) * r.width ≤ i' * r.width := Nat.mul_le_mul_right _ hlt
                    rw [Nat.add_mul] at this; omega
                subst e1
                exact ⟨rfl, by omega, by omega⟩)]
              exact ⟨z, hz, h1z, hmono _ _ hrz⟩
      · exact hk.elim
    · exact hk2.elim
theorem op_store (h : SRep cx W0 ok0 S0 β0 tm mm β a w) (hc : Cok P cx W0 ok0 S0) (t : TypeId) (p x : Operand) (ho : o.op = .store t p x)
    (hk : evK cx p tm fun a => evK cx x tm fun y => match o.dst with
    | none => storeK cx t a y tm mm K
    | some _ => False) : Goes P cx W0 ok0 S0 β0 o a w Q K := by
  obtain ⟨x', hx, hk⟩ := evK_ok h hc p _ hk
  obtain ⟨y', hy, hk⟩ := evK_ok h hc x _ hk
  split at hk
  · rename_i hd
    obtain ⟨w', tm', mm', hr, h', hk'⟩ := storeK_ok h hc hk hx hy
    unfold Goes OpW
    rw [show (execOp a.eval o).run P w = .ok .skip w' from by first | (simp [execOp, ho, hr]; done) | (simp [execOp, ho, hr]; rfl)]
    show ∃ tm' mm' β', SRep cx W0 ok0 S0 β0 tm' mm' β' (a.put o.dst undef) w' ∧ K tm' mm'
    rw [hd]
    exact ⟨tm', mm', β, h', hk'⟩
  · exact hk.elim
end
end Go.Proofs.YtgdcefohfebleaaDoor.V
