/-
  Proved here, step by step for the theorem UW: Operations that leave the world as it is.; Operations that leave the world as it is: comparisons, addresses, loads, cuts.; Operations that leave the world as it is: loads, elements, cuts, structs.; Operations that leave the world as it is: indexes, cuts, structs built, small builtins, the binary operations put together.; Operations that leave the world as it is: cuts, structs built, small builtins, binary operations.
  Conditions: those that stand in each theorem.
-/
import Derived.Laws.BitsLemmas
import Derived.Laws.Strings
import Derived.Laws.Concat
import Derived.Laws.StructEq
import Derived.Laws.Cover3
import Derived.Test.YtgdcefohfebleaaDoorM01
/- Operations that leave the world as it is. -/
set_option linter.unusedVariables false
set_option linter.unusedSimpArgs false
namespace Go.Proofs.YtgdcefohfebleaaDoor.V
open Go Go.RowKit

section
variable {P : Program} {cx : Cx} {W0 : World} {ok0 S0 : Nat → Prop} {β0 : Nat → Ent} {tm : TM} {mm : MM} {β : Nat → Ent} {a : Act} {w : World} {o : Oper} {Q : Exit → Act → World → Prop} {K : TM → MM → Prop}

theorem capL_rep {ok : Nat → Prop} {f : Nat → DV} : ∀ (n j : Nat) {vs : List Value}, vs.length = n → (∀ i u, vs[i]? = some u → (f (j + i)).rep w ok u) → AV.reps w ok β (capL f j n) vs
  | 0, j, vs, hl, _ => List.eq_nil_of_length_eq_zero hl
  | n + 1, j, [], hl, _ => by simp at hl
  | n + 1, j, u :: vs, hl, h => ⟨u, vs, rfl, h 0 u rfl, capL_rep n (j + 1) (by simpa using hl) fun i x hx => by
      have := h (i + 1) x (by simpa using hx)
      rwa [show j + (i + 1) = j + 1 + i by omega] at this⟩
theorem normA_rep {ok : Nat → Prop} (x : AV) {v : Value} (h : x.rep w ok β v) : (normA x).rep w ok β v := by
  unfold normA
  split
  · split
    · obtain ⟨vs, e, h1, h2⟩ := h; exact ⟨vs, e, capL_rep _ 0 h1 fun i u hu => by rw [Nat.zero_add]; exact h2 i u hu⟩
    · obtain ⟨vs, e, h1, h2⟩ := h; exact ⟨vs, e, capL_rep _ 0 h1 fun i u hu => by rw [Nat.zero_add]; exact h2 i u hu⟩
    · exact h
    · exact h
  · exact h
theorem op_move (h : SRep cx W0 ok0 S0 β0 tm mm β a w) (hc : Cok P cx W0 ok0 S0) (x : Operand) (ho : o.op = .move x) (hk : evK cx x tm fun a => putK cx o.dst a tm fun tm => K tm mm) : GoesP P cx W0 ok0 S0 β0 o a w mm β K := by
  obtain ⟨x', hx, hk⟩ := evK_ok h hc x _ hk
  exact goes_put h (fun w2 _ => by simp [execOp, ho]) hk hx
theorem op_assign (h : SRep cx W0 ok0 S0 β0 tm mm β a w) (hc : Cok P cx W0 ok0 S0) (x : Operand) (ho : o.op = .assign x) (hk : evK cx x tm fun a => putK cx o.dst a tm fun tm => K tm mm) : GoesP P cx W0 ok0 S0 β0 o a w mm β K := by
  obtain ⟨x', hx, hk⟩ := evK_ok h hc x _ hk
  exact goes_put h (fun w2 _ => by simp [execOp, ho]) hk hx
theorem op_convert (h : SRep cx W0 ok0 S0 β0 tm mm β a w) (hc : Cok P cx W0 ok0 S0) (src dst : TypeId) (x : Operand) (ho : o.op = .convert src dst x)
    (hk : evK cx x tm fun a => convK cx src dst a fun a => putK cx o.dst a tm fun tm => K tm mm) : GoesP P cx W0 ok0 S0 β0 o a w mm β K := by
  obtain ⟨x', hx, hk⟩ := evK_ok h hc x _ hk
  unfold convK at hk
  split at hk
  · rename_i ts td hs hd
    cases hkd : Nat.beq td.kind 6 with
    | false => rw [hkd] at hk; exact hk.elim
    | true =>
      simp only [hkd, cond_true] at hk
      obtain ⟨k, z, hu, hz⟩ := (hc.tb _ _ hd).it (Nat.eq_of_beq_eq_true hkd)
      split at hk
      · rename_i k0 n k1 z1 hz1
        rw [hz] at hz1
        cases hz1
        have hx : a.eval x = .int k0 n := hx
        have hik : P.intKind dst = k := by simp [Program.intKind, hu]
        have hr := fun w2 => run_convert_int (P := P) w2 src dst k0 n (hc.tb _ _ hs).und (by rw [hik]; exact hu)
        rw [hik] at hr
        exact goes_put h (fun w2 _ => by simp only [execOp, ho, hx]; rw [Sem.run_bind, hr]; rfl) hk rfl
      · exact hk.elim
  · exact hk.elim
theorem op_pick (h : SRep cx W0 ok0 S0 β0 tm mm β a w) (hc : Cok P cx W0 ok0 S0) (c x y : Operand) (ho : o.op = .pick c x y)
    (hk : evK cx c tm fun c => boolK c fun c => brK c (evK cx x tm fun a => putK cx o.dst a tm fun tm => K tm mm) (evK cx y tm fun a => putK cx o.dst a tm fun tm => K tm mm)) : GoesP P cx W0 ok0 S0 β0 o a w mm β K := by
  obtain ⟨c', hcv, hk⟩ := evK_ok h hc c _ hk
  obtain ⟨b, rfl, hk2⟩ := boolK_ok hk
  clear hk
  have hcv : a.eval c = .bool b := hcv
  rcases brK_ok hk2 with ⟨rfl, hk3⟩ | ⟨rfl, hk3⟩
  · obtain ⟨x', hx, hk⟩ := evK_ok h hc x _ hk3
    exact goes_put h (fun w2 _ => by simp [execOp, ho, hcv, asBool]) hk hx
  · obtain ⟨x', hx, hk⟩ := evK_ok h hc y _ hk3
    exact goes_put h (fun w2 _ => by simp [execOp, ho, hcv, asBool]) hk hx
theorem op_nilCheck (h : SRep cx W0 ok0 S0 β0 tm mm β a w) (hc : Cok P cx W0 ok0 S0) (x : Operand) (ho : o.op = .nilCheck x)
    (hk : evK cx x tm fun a => match normA a with
    | .ep m f => putK cx o.dst (.ep m f) tm fun tm => K tm mm
    | .bp b j => putK cx o.dst (.bp b j) tm fun tm => K tm mm
    | .rp b k i j => putK cx o.dst (.rp b k i j) tm fun tm => K tm mm
    | .fn g l => putK cx o.dst (.fn g l) tm fun tm => K tm mm
    | _ => False) : GoesP P cx W0 ok0 S0 β0 o a w mm β K := by
  obtain ⟨x', hx, hk⟩ := evK_ok h hc x _ hk
  have hx := normA_rep x' hx
  revert hx hk
  generalize normA x' = x'
  intro hk hx
  split at hk
  · obtain ⟨ad, e, _⟩ := id hx
    exact goes_put h (fun w2 _ => by simp [execOp, ho, e]; rfl) hk (by rw [e] at hx; exact hx)
  · have e : a.eval x = _ := hx
    exact goes_put h (fun w2 _ => by simp [execOp, ho, e]; rfl) hk (by rw [e] at hx; exact hx)
  · have e : a.eval x = _ := hx
    exact goes_put h (fun w2 _ => by simp [execOp, ho, e]; rfl) hk (by rw [e] at hx; exact hx)
  · obtain ⟨vs, e, _⟩ := id hx
    exact goes_put h (fun w2 _ => by simp [execOp, ho, e]; rfl) hk (by rw [e] at hx; exact hx)
  · exact hk.elim
theorem op_makeFunc (h : SRep cx W0 ok0 S0 β0 tm mm β a w) (hc : Cok P cx W0 ok0 S0) (g : FuncId) (caps : Array Operand) (ho : o.op = .makeFunc (.func g) #[] caps)
    (hk : evsK cx tm caps.toList fun l => putK cx o.dst (.fn g l) tm fun tm => K tm mm) : GoesP P cx W0 ok0 S0 β0 o a w mm β K := by
  obtain ⟨l, hl, hk⟩ := evsK_ok h hc _ _ hk
  exact goes_put h (v := .func (.func g) #[] (caps.toList.map a.eval).toArray) (fun w2 _ => by simp only [execOp, ho, Instr.makeFunc]; simp; rw [← Array.toList_map]) hk ⟨_, rfl, hl⟩
theorem nthK_ok {α : Type} {K : α → Prop} : ∀ (j : Nat) (l : List α), nthK j l K → ∃ x, l[j]? = some x ∧ K x
  | _, [], h => by simp [nthK] at h
  | 0, a :: _, h => ⟨a, rfl, h⟩
  | j + 1, _ :: r, h => by
    obtain ⟨x, hx, hk⟩ := nthK_ok j r h
    exact ⟨x, by simpa using hx, hk⟩
theorem op_extract (h : SRep cx W0 ok0 S0 β0 tm mm β a w) (hc : Cok P cx W0 ok0 S0) (x : Operand) (j : Nat) (ho : o.op = .extract x j)
    (hk : evK cx x tm fun a => match a with
    | .tup l => nthK j l fun a => putK cx o.dst a tm fun tm => K tm mm
    | _ => False) : GoesP P cx W0 ok0 S0 β0 o a w mm β K := by
  obtain ⟨x', hx, hk⟩ := evK_ok h hc x _ hk
  split at hk
  · rename_i l
    obtain ⟨vs, e, hl⟩ := hx
    obtain ⟨y, hy, hk⟩ := nthK_ok _ _ hk
    obtain ⟨v, hv, hr⟩ := reps_get l hl j y hy
    exact goes_put h (v := v) (fun w2 _ => by simp [execOp, ho, e, Instr.extract, hv]) hk hr
  · exact hk.elim

/-! ### arithmetic -/
theorem wrap_in64 {z : Int} (h : in64 z) : IntKind.i64.wrap z = z := by
  unfold in64 at h
  unfold IntKind.wrap IntKind.bits IntKind.signed
  simp only [Bool.true_and, decide_eq_true_eq, ge_iff_le]
  split <;> omega
theorem arithK_ok {raw : Bool} {k : IntKind} {z : Int} {K : AV → Prop} (h : arithK raw k z K) : K (.d (.v (.int k (k.wrap z)))) := by
  unfold arithK at h
  split at h
  · obtain ⟨⟨h1⟩, h⟩ := h; rw [wrap_in64 h1]; exact h
  · exact h
theorem bit64_ok {op : BinOp} {x y : Int} {K : Int → Prop} (hx : pos64 x) (hy : pos64 y) (h : bit64 op x y K) : K (bitv op .i64 x y) := by
  unfold pos64 at hx hy
  obtain ⟨m, rfl⟩ := Int.eq_ofNat_of_zero_le hx.1
  obtain ⟨n, rfl⟩ := Int.eq_ofNat_of_zero_le hy.1
  have hm : m < 2 ^ 63 := by omega
  have hn : n < 2 ^ 63 := by omega
  have e1 : (BitVec.ofInt 64 (m : Int)).toNat = m := by simp [BitVec.toNat_ofInt]; omega
  have e2 : (BitVec.ofInt 64 (n : Int)).toNat = n := by simp [BitVec.toNat_ofInt]; omega
  unfold bit64 at h
  split at h
  · have : (m &&& n : Nat) < 2 ^ 63 := Nat.lt_of_le_of_lt Nat.and_le_left hm
    have e : bitv .and .i64 (m : Int) (n : Int) = IntKind.i64.wrap ((BitVec.ofInt 64 (m : Int)).toNat &&& (BitVec.ofInt 64 (n : Int)).toNat : Nat) := by rw [← BitVec.toNat_and]; rfl
    rw [e, e1, e2, wrap_in64 (by unfold in64; omega)]
    simpa using h
  · have : (m ||| n : Nat) < 2 ^ 63 := Nat.or_lt_two_pow hm hn
    have e : bitv .or .i64 (m : Int) (n : Int) = IntKind.i64.wrap ((BitVec.ofInt 64 (m : Int)).toNat ||| (BitVec.ofInt 64 (n : Int)).toNat : Nat) := by rw [← BitVec.toNat_or]; rfl
    rw [e, e1, e2, wrap_in64 (by unfold in64; omega)]
    simpa using h
  · have : (m ^^^ n : Nat) < 2 ^ 63 := Nat.xor_lt_two_pow hm hn
    have e : bitv .xor .i64 (m : Int) (n : Int) = IntKind.i64.wrap ((BitVec.ofInt 64 (m : Int)).toNat ^^^ (BitVec.ofInt 64 (n : Int)).toNat : Nat) := by rw [← BitVec.toNat_xor]; rfl
    rw [e, e1, e2, wrap_in64 (by unfold in64; omega)]
    simpa using h
  · exact h.elim
theorem bitK_ok {raw : Bool} {op : BinOp} {k : IntKind} {x y : Int} {K : AV → Prop} (h : bitK raw op k x y K) : K (.d (.v (.int k (bitv op k x y)))) := by
  unfold bitK at h
  split at h
  · obtain ⟨⟨h1⟩, h⟩ := h; exact bit64_ok (K := fun z => K (.d (.v (.int .i64 z)))) h1.1 h1.2 h
  · exact h
theorem quo_ok {k : IntKind} {x y : Int} (h : 0 ≤ x ∧ x ≤ k.max ∧ 0 < y) : k.wrap (x.tdiv y) = x / y := by
  have e : x.tdiv y = x / y := Int.tdiv_eq_ediv_of_nonneg h.1
  rw [e]
  have h1 : 0 ≤ x / y := Int.ediv_nonneg h.1 (by omega)
  have h2 : x / y ≤ x := Int.ediv_le_self y h.1
  cases k <;> simp [IntKind.max, IntKind.signed, IntKind.bits] at h <;> unfold IntKind.wrap IntKind.bits IntKind.signed <;> simp only [Bool.true_and, Bool.false_and, decide_eq_true_eq, ge_iff_le, Bool.false_eq_true, if_false] <;> (try split) <;> omega
theorem binInt_ok {raw : Bool} {op : BinOp} {k k' : IntKind} {x y : Int} {K : AV → Prop} (h : binInt raw op k x k' y K) (t : TypeId) :
    ∃ v, (∀ w, (binOp op t (.int k x) (.int k' y)).run P w = .ok v w) ∧ K (.d (.v v)) := by
  unfold binInt at h
  split at h
  · obtain ⟨⟨h0⟩, h⟩ := h
    exact ⟨_, fun w => by first | (simp [binOp, Op.shift, show ¬ y < 0 by omega]; done) | (simp [binOp, Op.shift, show ¬ y < 0 by omega]; rfl), arithK_ok h⟩
  · obtain ⟨⟨h0⟩, h⟩ := h
    refine ⟨_, fun w => ?_, h⟩
    simp [binOp, Op.shift, show ¬ y < 0 by omega]
    rw [Int.fdiv_eq_ediv_of_nonneg _ (Int.pow_nonneg (by decide))]
  · obtain ⟨⟨rfl⟩, h⟩ := h; exact ⟨_, fun w => by first | (simp [binOp, Op.intArith]; done) | (simp [binOp, Op.intArith]; rfl), arithK_ok h⟩
  · obtain ⟨⟨rfl⟩, h⟩ := h; exact ⟨_, fun w => by first | (simp [binOp, Op.intArith]; done) | (simp [binOp, Op.intArith]; rfl), arithK_ok h⟩
  · obtain ⟨⟨rfl⟩, h⟩ := h; exact ⟨_, fun w => by first | (simp [binOp, Op.intArith]; done) | (simp [binOp, Op.intArith]; rfl), arithK_ok h⟩
  · obtain ⟨⟨rfl⟩, h⟩ := h
    split at h
    · obtain ⟨⟨h0⟩, h⟩ := h; exact ⟨_, fun w => by first | (simp [binOp, Op.intDiv, h0]; done) | (simp [binOp, Op.intDiv, h0]; rfl), h⟩
    · obtain ⟨⟨h0⟩, h⟩ := h; exact ⟨_, fun w => by first | (simp [binOp, Op.intDiv, show y ≠ 0 by omega]; done) | (simp [binOp, Op.intDiv, show y ≠ 0 by omega]; rfl), by rw [quo_ok h0]; exact h⟩
  · obtain ⟨⟨rfl⟩, h⟩ := h
    split at h
    · obtain ⟨⟨h0⟩, h⟩ := h; exact ⟨_, fun w => by first | (simp [binOp, Op.intDiv, h0]; done) | (simp [binOp, Op.intDiv, h0]; rfl), h⟩
    · obtain ⟨⟨h0⟩, h⟩ := h; exact ⟨_, fun w => by first | (simp [binOp, Op.intDiv, show y ≠ 0 by omega]; done) | (simp [binOp, Op.intDiv, show y ≠ 0 by omega]; rfl), by rw [Int.tmod_eq_emod_of_nonneg h0.1]; exact h⟩
  · obtain ⟨⟨rfl⟩, h⟩ := h; exact ⟨_, fun w => by first | (simp only [binOp, Op.intBits]; rfl) | (simp [binOp, Op.intBits]; done) | (simp only [binOp, Op.intBits, ne_eq, not_true, if_false]; rfl), bitK_ok h⟩
  · obtain ⟨⟨rfl⟩, h⟩ := h; exact ⟨_, fun w => by first | (simp only [binOp, Op.intBits]; rfl) | (simp [binOp, Op.intBits]; done) | (simp only [binOp, Op.intBits, ne_eq, not_true, if_false]; rfl), bitK_ok h⟩
  · obtain ⟨⟨rfl⟩, h⟩ := h; exact ⟨_, fun w => by first | (simp only [binOp, Op.intBits]; rfl) | (simp [binOp, Op.intBits]; done) | (simp only [binOp, Op.intBits, ne_eq, not_true, if_false]; rfl), bitK_ok h⟩
  · obtain ⟨⟨rfl⟩, h⟩ := h; exact ⟨_, fun w => by first | (simp only [binOp, Op.intBits]; rfl) | (simp [binOp, Op.intBits]; done) | (simp only [binOp, Op.intBits, ne_eq, not_true, if_false]; rfl), h⟩
  · obtain ⟨⟨rfl⟩, h⟩ := h; exact ⟨_, fun w => by first | (simp [binOp, Op.intCmp]; done) | (simp [binOp, Op.intCmp]; rfl), h⟩
  · obtain ⟨⟨rfl⟩, h⟩ := h; exact ⟨_, fun w => by first | (simp [binOp, Op.intCmp]; done) | (simp [binOp, Op.intCmp]; rfl), h⟩
  · obtain ⟨⟨rfl⟩, h⟩ := h; exact ⟨_, fun w => by first | (simp [binOp, Op.intCmp]; done) | (simp [binOp, Op.intCmp]; rfl), h⟩
  · obtain ⟨⟨rfl⟩, h⟩ := h; exact ⟨_, fun w => by first | (simp [binOp, Op.intCmp]; done) | (simp [binOp, Op.intCmp]; rfl), h⟩
  · obtain ⟨⟨rfl⟩, h⟩ := h; exact ⟨_, fun w => by first | (simp [binOp, Op.intCmp]; done) | (simp [binOp, Op.intCmp]; rfl), h⟩
  · obtain ⟨⟨rfl⟩, h⟩ := h; exact ⟨_, fun w => by first | (simp [binOp, Op.intCmp]; done) | (simp [binOp, Op.intCmp]; rfl), h⟩
end
end Go.Proofs.YtgdcefohfebleaaDoor.V
/- Operations that leave the world as it is: comparisons, addresses, loads, cuts. -/
set_option linter.unusedVariables false
set_option linter.unusedSimpArgs false
namespace Go.Proofs.YtgdcefohfebleaaDoor.V
open Go Go.RowKit

section
variable {P : Program} {cx : Cx} {W0 : World} {ok0 S0 : Nat → Prop} {β0 : Nat → Ent} {tm : TM} {mm : MM} {β : Nat → Ent} {a : Act} {w : World} {o : Oper} {Q : Exit → Act → World → Prop} {K : TM → MM → Prop}

theorem decide_bytes (s t : ByteArray) : (s.toList == t.toList) = decide (s = t) := by
  rw [Bool.eq_iff_iff]
  simp only [beq_iff_eq, decide_eq_true_eq]
  constructor
  · intro h
    rw [ByteArray.toList_eq, ByteArray.toList_eq] at h
    obtain ⟨⟨x⟩⟩ := s
    obtain ⟨⟨y⟩⟩ := t
    simp only at h
    rw [h]
  · intro h; rw [h]
theorem binStr_ok {op : BinOp} {s t : ByteArray} {K : AV → Prop} (h : binStr op s t K) (ty : TypeId) :
    ∃ v, (∀ w, (binOp op ty (.string s) (.string t)).run P w = .ok v w) ∧ K (.d (.v v)) := by
  unfold binStr at h
  split at h
  · obtain ⟨⟨h0⟩, h⟩ := h; exact ⟨_, fun w => run_string_add_sum w s t h0, h⟩
  · exact ⟨_, fun w => by first | (simp [binOp, Op.stringOp]; done) | (simp [binOp, Op.stringOp]; rfl), by rw [decide_bytes]; exact h⟩
  · exact ⟨_, fun w => by first | (simp [binOp, Op.stringOp]; done) | (simp [binOp, Op.stringOp]; rfl), by rw [decide_bytes]; exact h⟩
  · exact ⟨_, fun w => by first | (simp [binOp, Op.stringOp]; done) | (simp [binOp, Op.stringOp]; rfl), h⟩
  · exact h.elim
theorem guard_none {op : BinOp} {t : TypeId} {x y : Operand} {u v : Value} (hu : ∀ cs, u ≠ .agg cs) (hn : u ≠ .nilIface) (w : World) : (eqGuard op t x y u v).run P w = .ok () w := by
  cases op <;> first | rfl | (cases u <;> first | rfl | exact absurd rfl hn | exact absurd rfl (hu _))

/-! ### what a slice held against nil says -/
theorem nilEq_ok {op : BinOp} {n : Nat} {K : AV → Prop} (h : nilEq op n K) {t e : TypeId} (ht : P.underlying t = some (.slice e)) {A : Option Addr} {c : Nat} (hA : A = none → n = 0) :
    ∃ v, (∀ w, (binOp op t (.slice A n c) (.slice none 0 0)).run P w = .ok v w) ∧ K (.d (.v v)) := by
  have hr : ∀ w, (Op.equal t (.slice A n c) (.slice none 0 0)).run P w = .ok A.isNone w := fun w => run_equal_slice_nil w t e A n c ht
  unfold nilEq at h
  split at h
  · refine ⟨_, fun w => by first | (simp only [binOp]; simp [hr]; done) | (simp only [binOp]; simp [hr]; rfl), h A.isNone ?_⟩
    cases A <;> simp_all
  · refine ⟨_, fun w => by first | (simp only [binOp]; simp [hr]; done) | (simp only [binOp]; simp [hr]; rfl), h A.isNone ?_⟩
    cases A <;> simp_all
  · exact h.elim
theorem sl_form {w : World} {ok : Nat → Prop} {r : DV} (hr : r.isSl = true) {y : Value} (h : r.rep w ok y) : ∃ A c, y = .slice A r.len c ∧ r.len ≤ c ∧ (A = none → r.len = 0) := by
  obtain ⟨A, c, rfl, hc, h⟩ := (DV.rep_sl hr y).1 h
  refine ⟨A, c, rfl, hc, fun hA => ?_⟩
  rcases Nat.eq_zero_or_pos r.len with h0 | h0
  · exact h0
  · obtain ⟨ad, e, _⟩ := h h0; rw [hA] at e; cases e
theorem lenK_ok {r : DV} {K : Nat → Prop} (h : lenK r K) : r.isSl = true ∧ K r.len := by
  cases r <;> first | exact h.elim | exact ⟨rfl, h⟩
theorem cellK_ok {r : DV} {i : Nat} {K : Nat → (Nat → DV) → Prop} (h : cellK r i K) : r.isSl = true ∧ ∃ f, K r.width f ∧ ∀ j, f j = r.cell i j := by
  cases r <;> first | exact h.elim | exact ⟨rfl, _, h, fun _ => rfl⟩

/-! ### fields, elements -/
theorem add_add (ad : Addr) (x y : Nat) : (ad.add x).add y = ad.add (x + y) := by
  unfold Addr.add
  by_cases hx : x = 0 <;> by_cases hy : y = 0 <;> simp [hx, hy] <;> omega
theorem add_plain0 (g x j : Nat) : (⟨g, x, none⟩ : Addr).add j = ⟨g, x + j, none⟩ := by unfold Addr.add; split <;> simp_all
theorem fieldAddrK_ok (hc : Cok P cx W0 ok0 S0) {t : TypeId} {x : AV} {j : Nat} {K : AV → Prop} (h : fieldAddrK cx t x j K) {ok : Nat → Prop} {v : Value} (hx : x.rep w ok β v) :
    ∃ x' v', (∀ w2, (Instr.fieldAt t v j).run P w2 = .ok v' w2) ∧ x'.rep w ok β v' ∧ K x' := by
  unfold fieldAddrK at h
  split at h
  · exact h.elim
  rename_i ti hti
  have T := hc.tb t ti hti
  have hx := normA_rep x hx
  revert hx h
  generalize normA x = x
  intro h hx
  cases hk : Nat.beq ti.kind 1 with
  | false => rw [hk] at h; exact h.elim
  | true =>
    rw [hk] at h
    obtain ⟨⟨off, size, ag⟩, ho, h⟩ := nthK_ok _ _ h
    obtain ⟨fs, hu, hf⟩ := T.str (Nat.eq_of_beq_eq_true hk)
    obtain ⟨f, hf1, hf2, ⟨i, hi1, hi2⟩, _⟩ := hf j off size ag ho
    cases hs : Nat.beq size 0 with
    | true => simp only [hs, cond_true] at h
    | false =>
      simp only [hs, cond_false] at h
      have hs' : size ≠ 0 := Nat.ne_of_beq_eq_false hs
      have run : ∀ ad : Addr, v = .pointer (some ad) → ∀ w, (Instr.fieldAt t v j).run P w = .ok (.pointer (some (ad.add off))) w := by
        rintro ad rfl w
        have : (fieldPlace ad f).run P w = .ok (ad.add off) w := by
          unfold fieldPlace
          simp only [Sem.run_bind, run_size hi1, Result.andThen_ok, hi2, if_neg hs', Sem.run_pure, hf2]
        simp [Instr.fieldAt, run_underlying hu, hf1, Instr.sureAddr, this]
      split at h
      · rename_i m g _
        obtain ⟨ad, e, h1, h2⟩ := hx
        refine ⟨.ep (m - off) fun x => g (off + x), _, run ad e, ⟨ad.add off, rfl, fun hm => ?_, fun i hi => ?_⟩, h⟩
        · rw [show (ad.add off).block = ad.block from by unfold Addr.add; split <;> rfl]; exact h1 (by omega)
        · rw [add_add]; exact h2 (off + i) (by omega)
      · rename_i b i0
        refine ⟨_, _, run _ hx, ?_, h⟩
        rw [add_plain0]; rfl
      · rename_i b k i0 j0
        refine ⟨_, _, run _ hx, ?_, h⟩
        rw [add_plain0]
        simp [AV.rep, Nat.add_assoc]
      · exact h.elim
theorem op_fieldAddr (h : SRep cx W0 ok0 S0 β0 tm mm β a w) (hc : Cok P cx W0 ok0 S0) (t : TypeId) (x : Operand) (j : Nat) (ho : o.op = .fieldAddr t x j)
    (hk : evK cx x tm fun a => fieldAddrK cx t a j fun a => putK cx o.dst a tm fun tm => K tm mm) : GoesP P cx W0 ok0 S0 β0 o a w mm β K := by
  obtain ⟨x', hx, hk⟩ := evK_ok h hc x _ hk
  obtain ⟨y, v, hr, hy, hk⟩ := fieldAddrK_ok hc hk hx
  exact goes_put h (fun w2 _ => by simp [execOp, ho, hr]) hk hy

theorem takeK_is {K : List AV → Prop} : ∀ (cs : List AV) (j m : Nat), takeK j m cs K → K ((cs.drop j).take m) ∧ (m = 0 ∨ j + m ≤ cs.length)
  | [], j, 0, h => by simpa [takeK] using h
  | [], j, m + 1, h => by simp [takeK] at h
  | c :: cs, j, 0, h => by simpa [takeK] using h
  | c :: cs, 0, m + 1, h => by
    simp only [takeK] at h
    obtain ⟨h1, h2⟩ := takeK_is cs 0 m h
    refine ⟨by simpa using h1, .inr ?_⟩
    rcases h2 with h2 | h2
    · subst h2; simp
    · simp; omega
  | c :: cs, j + 1, m + 1, h => by
    simp only [takeK] at h
    obtain ⟨h1, h2⟩ := takeK_is cs j (m + 1) h
    refine ⟨by simpa using h1, .inr ?_⟩
    rcases h2 with h2 | h2
    · omega
    · simp; omega
theorem reps_drop {ok : Nat → Prop} : ∀ (j : Nat) (l : List AV) {vs : List Value}, AV.reps w ok β l vs → AV.reps w ok β (l.drop j) (vs.drop j)
  | 0, _, _, h => h
  | j + 1, [], _, h => by rw [show _ = [] from h]; simp; rfl
  | j + 1, x :: r, _, ⟨v, rest, e, _, h⟩ => by rw [e]; simpa using reps_drop j r h
theorem reps_take {ok : Nat → Prop} : ∀ (j : Nat) (l : List AV) {vs : List Value}, AV.reps w ok β l vs → AV.reps w ok β (l.take j) (vs.take j)
  | 0, _, _, h => rfl
  | j + 1, [], _, h => by rw [show _ = [] from h]; rfl
  | j + 1, x :: r, _, ⟨v, rest, e, hv, h⟩ => by rw [e]; exact ⟨v, _, rfl, hv, reps_take j r h⟩
theorem aggK_ok {f : Nat → DV} {K : List AV → Prop} : ∀ (m j : Nat), aggK f j m K → K ((List.range' j m).map fun i => .d (f i))
  | 0, _, h => h
  | m + 1, j, h => by
    simp only [aggK] at h
    have := aggK_ok (K := fun l => K (.d (f j) :: l)) m (j + 1) h
    simpa [List.range'_succ] using this
theorem reps_of {ok : Nat → Prop} : ∀ (l : List AV) (vs : List Value), l.length = vs.length → (∀ (j : Nat) (x : AV) (v : Value), l[j]? = some x → vs[j]? = some v → x.rep w ok β v) → AV.reps w ok β l vs
  | [], [], _, _ => rfl
  | [], _ :: _, h, _ => by simp at h
  | _ :: _, [], h, _ => by simp at h
  | x :: r, v :: rest, hl, h => ⟨v, rest, rfl, h 0 x v rfl rfl, reps_of r rest (by simpa using hl) fun j y u hy hu => h (j + 1) y u (by simpa using hy) (by simpa using hu)⟩
/-- Cells that are told by data: as values. -/
theorem cells_of {ok : Nat → Prop} {ad : Addr} {f : Nat → DV} {j0 m : Nat} (h : ∀ j, j < m → ∃ u, w.cell? (ad.add j) = some u ∧ one u = true ∧ (f (j0 + j)).rep w ok u) :
    ∃ cs : List Value, cs.length = m ∧ (∀ j v, cs[j]? = some v → w.cell? (ad.add j) = some v) ∧ (∀ v ∈ cs, one v = true) ∧ AV.reps w ok β ((List.range' j0 m).map fun i => .d (f i)) cs := by
  refine ⟨(List.range m).map fun j => (w.cell? (ad.add j)).getD undef, by simp, fun j v hv => ?_, fun v hv => ?_, reps_of _ _ (by simp) fun j x v hx hv => ?_⟩
  · simp only [List.getElem?_map, Option.map_eq_some_iff] at hv
    obtain ⟨i, hi, rfl⟩ := hv
    have hj : j < m := by
      rcases Nat.lt_or_ge j m with h' | h'
      · exact h'
      · rw [List.getElem?_eq_none (by simpa using h')] at hi; cases hi
    rw [List.getElem?_range hj] at hi
    cases hi
    obtain ⟨u, hu, _⟩ := h j hj
    rw [hu]; rfl
  · simp only [List.mem_map, List.mem_range] at hv
    obtain ⟨j, hj, rfl⟩ := hv
    obtain ⟨u, hu, h1, _⟩ := h j hj
    rw [hu]; exact h1
  · simp only [List.getElem?_map, Option.map_eq_some_iff] at hv hx
    obtain ⟨i, hi, rfl⟩ := hv
    obtain ⟨i', hi', rfl⟩ := hx
    have hj : j < m := by
      rcases Nat.lt_or_ge j m with h' | h'
      · exact h'
      · rw [List.getElem?_eq_none (by simpa using h')] at hi; cases hi
    rw [List.getElem?_range hj] at hi
    cases hi
    rw [List.getElem?_range' hj] at hi'
    cases hi'
    obtain ⟨u, hu, _, hr⟩ := h j hj
    rw [hu]
    show DV.rep _ _ _ _
    simpa using hr
end
end Go.Proofs.YtgdcefohfebleaaDoor.V
/- Operations that leave the world as it is: loads, elements, cuts, structs. -/
set_option linter.unusedVariables false
set_option linter.unusedSimpArgs false
namespace Go.Proofs.YtgdcefohfebleaaDoor.V
open Go Go.RowKit

section
variable {P : Program} {cx : Cx} {W0 : World} {ok0 S0 : Nat → Prop} {β0 : Nat → Ent} {tm : TM} {mm : MM} {β : Nat → Ent} {a : Act} {w : World} {o : Oper} {Q : Exit → Act → World → Prop} {K : TM → MM → Prop}

theorem cell_heap {g : Nat} {vs : List Value} {e : TypeId} {fr : Nat × Nat} (h : w.heap[g]? = some (.cells vs.toArray e fr)) (x : Nat) : w.cell? ⟨g, x, none⟩ = vs[x]? := by
  simp [World.cell?, h]
theorem rowK_ok {b : Nat} {K : DV → Prop} (h : rowK b mm K) : ∃ e r, lkM b mm = .row e r ∧ K r := by
  unfold rowK at h
  rw [getK_eq] at h
  split at h
  · rename_i e r hr; exact ⟨e, r, hr, h⟩
  · exact h.elim
/-- A row that has elements: its cells. -/
theorem row_cells (h : SRep cx W0 ok0 S0 β0 tm mm β a w) {b : Nat} {e : TypeId} {r : DV} (hb : lkM b mm = .row e r) (hn : 0 < r.len) :
    live mm β b ∧ r.isSl = true ∧ ∃ vs : List Value, w.heap[(β b).blk]? = some (.cells vs.toArray e (0, 0)) ∧ vs.length = (β b).cap * r.width ∧ r.len ≤ (β b).cap ∧
      ∀ i, i < r.len → ∀ j, j < r.width → ∃ u, vs[i * r.width + j]? = some u ∧ one u = true ∧ (r.cell i j).rep w (okB W0 ok0 S0 mm β w) u := by
  have := h.me b
  rw [hb] at this
  obtain ⟨h1, h2⟩ := this
  by_cases hnil : (β b).nil = true
  · rw [if_pos hnil] at h2; omega
  · rw [if_neg hnil] at h2
    exact ⟨by unfold live; rw [hb]; simpa [ABlk.lives] using hnil, h1, h2⟩
theorem loadK_ok (h : SRep cx W0 ok0 S0 β0 tm mm β a w) (hc : Cok P cx W0 ok0 S0) {t : TypeId} {x : AV} {K : AV → Prop} (hk : loadK cx t x mm K) {v : Value} (hx : x.rep w (okB W0 ok0 S0 mm β w) β v) :
    ∃ x' v', (∀ w2, Below w.heap.size w w2 → (Instr.loadAt t v).run P w2 = .ok v' w2) ∧ x'.rep w (okB W0 ok0 S0 mm β w) β v' ∧ K x' := by
  unfold loadK at hk
  split at hk
  · exact hk.elim
  rename_i ti hti
  have T := hc.tb t ti hti
  have hx := normA_rep x hx
  revert hx hk
  generalize normA x = x
  intro hk hx
  have run : ∀ (ad : Addr) (cs : List Value), v = .pointer (some ad) → cs.length = ti.cells → (∀ j u, cs[j]? = some u → w.cell? (ad.add j) = some u) → (ti.agg = true ∨ ti.cells = 1) →
      ∀ w2, Below w.heap.size w w2 → (Instr.loadAt t v).run P w2 = .ok (if ti.agg = true then .agg cs.toArray else cs.getD 0 undef) w2 := by
    rintro ad cs rfl hl hcs h1 w2 hb
    simp [Instr.loadAt, Instr.sureAddr, run_loadVar_of (w := w2) T ad cs hl (fun j u hu => cell_below hb (hcs j u hu)) h1]
  -- out of data cells
  have fin : ∀ (ad : Addr) (f : Nat → DV) (j0 : Nat), v = .pointer (some ad) → (∀ j, j < ti.cells → ∃ u, w.cell? (ad.add j) = some u ∧ one u = true ∧ (f (j0 + j)).rep w (okB W0 ok0 S0 mm β w) u) →
      (bif ti.agg then aggK f j0 ti.cells fun l => K (.agg l) else (bif Nat.beq ti.cells 1 then K (.d (f j0)) else False)) →
      ∃ x' v', (∀ w2, Below w.heap.size w w2 → (Instr.loadAt t v).run P w2 = .ok v' w2) ∧ x'.rep w (okB W0 ok0 S0 mm β w) β v' ∧ K x' := by
    intro ad f j0 e hf hk
    obtain ⟨cs, hl, hcs, ho, hr⟩ := cells_of (β := β) hf
    cases ha : ti.agg with
    | true =>
      rw [ha] at hk
      refine ⟨.agg _, .agg cs.toArray, ?_, ⟨cs, rfl, ho, hr⟩, aggK_ok (K := fun l => K (.agg l)) _ _ hk⟩
      intro w2 hb; rw [run ad cs e hl hcs (.inl ha) w2 hb, ha]; rfl
    | false =>
      rw [ha] at hk
      cases h1 : Nat.beq ti.cells 1 with
      | false => simp only [h1, cond_false] at hk
      | true =>
        simp only [h1, cond_true, cond_false] at hk
        have h1' : ti.cells = 1 := Nat.eq_of_beq_eq_true h1
        refine ⟨.d (f j0), cs.getD 0 undef, ?_, ?_, hk⟩
        · intro w2 hb; rw [run ad cs e hl hcs (.inr h1') w2 hb, ha]; rfl
        · obtain ⟨u, hu, _, hr2⟩ := hf 0 (by omega)
          match cs, (by omega : cs.length = 1) with
          | [c], _ =>
            have := hcs 0 c rfl
            rw [hu] at this
            cases this
            exact hr2
  split at hk
  · rename_i m f
    obtain ⟨ad, e, h1, h2⟩ := hx
    cases hm : Nat.ble ti.cells m with
    | false => rw [hm] at hk; exact hk.elim
    | true =>
      rw [hm] at hk
      exact fin ad f 0 e (fun j hj => by rw [Nat.zero_add]; exact h2 j (Nat.lt_of_lt_of_le hj (Nat.le_of_ble_eq_true hm))) hk
  · rename_i b j
    rw [getK_eq] at hk
    split at hk
    · rename_i cs hcs
      have hb := h.me b
      rw [hcs] at hb
      obtain ⟨vs, e, hh, hr, h1⟩ := hb
      obtain ⟨hk, hlen⟩ := takeK_is _ _ _ hk
      have hvl := reps_len _ hr
      have hr' := reps_take ti.cells _ (reps_drop j _ hr)
      have hc' : ∀ i u, ((vs.drop j).take ti.cells)[i]? = some u → w.cell? ((⟨(β b).blk, j, none⟩ : Addr).add i) = some u := by
        intro i u hu
        rw [add_plain0, cell_heap hh]
        simp only [List.getElem?_take, List.getElem?_drop] at hu
        split at hu
        · exact hu
        · cases hu
      have hl : ((vs.drop j).take ti.cells).length = ti.cells := by
        simp only [List.length_take, List.length_drop]; rw [hvl]; rcases hlen with hlen | hlen <;> omega
      cases ha : ti.agg with
      | true =>
        rw [ha] at hk
        refine ⟨.agg _, .agg _, ?_, ⟨_, rfl, fun v hv => h1 v (List.mem_of_mem_drop (List.mem_of_mem_take hv)), hr'⟩, hk⟩
        intro w2 hb; rw [run _ _ hx hl hc' (.inl ha) w2 hb, ha]; rfl
      | false =>
        rw [ha] at hk
        simp only [cond_false, oneA] at hk
        split at hk
        · rename_i x0 hx0
          rw [hx0] at hr'
          obtain ⟨u, rest, e1, e2, e3⟩ := hr'
          have e3' : rest = [] := e3
          subst e3'
          rw [e1] at hl hc'
          refine ⟨x0, u, ?_, e2, hk⟩
          intro w2 hb; rw [run _ [u] hx hl hc' (.inr (by simpa using hl.symm)) w2 hb, ha]; rfl
        · exact hk.elim
    · exact hk.elim
  · rename_i b k i j
    obtain ⟨e, r, hb, hk⟩ := rowK_ok hk
    obtain ⟨⟨hi⟩, hk⟩ := hk
    obtain ⟨hs, f, hk, hf⟩ := cellK_ok hk
    obtain ⟨hlv, _, vs, hh, h1, h2, h3⟩ := row_cells h hb (by omega)
    cases hq : (Nat.beq k r.width && Nat.ble (j + ti.cells) k) with
    | false => rw [hq] at hk; exact hk.elim
    | true =>
      rw [hq] at hk
      simp only [Bool.and_eq_true] at hq
      have hk1 : k = r.width := Nat.eq_of_beq_eq_true hq.1
      have hk2 := Nat.le_of_ble_eq_true hq.2
      refine fin _ f j hx (fun j' hj' => ?_) hk
      obtain ⟨u, hu, h1u, hr⟩ := h3 i hi (j + j') (by omega)
      refine ⟨u, ?_, h1u, by rw [hf]; exact hr⟩
      rw [add_plain0, cell_heap hh, hk1]
      rw [Nat.add_assoc]; exact hu
  · exact hk.elim
theorem op_load (h : SRep cx W0 ok0 S0 β0 tm mm β a w) (hc : Cok P cx W0 ok0 S0) (t : TypeId) (x : Operand) (ho : o.op = .load t x)
    (hk : evK cx x tm fun a => loadK cx t a mm fun a => putK cx o.dst a tm fun tm => K tm mm) : GoesP P cx W0 ok0 S0 β0 o a w mm β K := by
  obtain ⟨x', hx, hk⟩ := evK_ok h hc x _ hk
  obtain ⟨y, v, hr, hy, hk⟩ := loadK_ok h hc hk hx
  exact goes_put h (fun w2 hb => by simp [execOp, ho, hr w2 (hb (by simp [loadB, ho]))]) hk hy

theorem ewK_ok (hc : Cok P cx W0 ok0 S0) {t : TypeId} {K : TypeId → TI → Prop} (h : ewK cx t K) : ∃ e te, P.underlying t = some (.slice e) ∧ TIok P e te ∧ K e te := by
  unfold ewK at h
  split at h
  · exact h.elim
  rename_i ti hti
  cases hk : Nat.beq ti.kind 3 with
  | false => rw [hk] at h; exact h.elim
  | true =>
    rw [hk] at h
    simp only [cond_true] at h
    split at h
    · exact h.elim
    · rename_i te hte
      exact ⟨_, te, (hc.tb t ti hti).sl (Nat.eq_of_beq_eq_true hk), hc.tb _ te hte, h⟩
theorem run_index {t e : TypeId} {te : TI} (hu : P.underlying t = some (.slice e)) (T : TIok P e te) (ad : Addr) (n c : Nat) (k : IntKind) (i : Int) (hi : 0 ≤ i ∧ i < n) :
    (Instr.indexAt t (.slice (some ad) n c) (.int k i)).run P w = .ok (.pointer (some (ad.add (i.toNat * te.cells)))) w := by
  simp [Instr.indexAt, run_underlying hu, asIntOf, hi, T.size]
theorem indexAddrK_ok (h : SRep cx W0 ok0 S0 β0 tm mm β a w) (hc : Cok P cx W0 ok0 S0) {t : TypeId} {x : AV} {i : Int} {K : AV → Prop} (hk : indexAddrK cx t x i K) {v : Value} (hx : x.rep w (okB W0 ok0 S0 mm β w) β v) (ki : IntKind) :
    ∃ x' v', (∀ w2, (Instr.indexAt t v (.int ki i)).run P w2 = .ok v' w2) ∧ x'.rep w (okB W0 ok0 S0 mm β w) β v' ∧ K x' := by
  unfold indexAddrK at hk
  obtain ⟨e, te, hu, T, hk⟩ := ewK_ok hc hk
  have data : ∀ r : DV, r.rep w (okB W0 ok0 S0 mm β w) v → (lenK r fun n => Ob (0 ≤ i ∧ i < n) ∧ cellK r i.toNat fun k f => bif Nat.beq te.cells k then K (.ep k f) else False) →
      ∃ x' v', (∀ w2, (Instr.indexAt t v (.int ki i)).run P w2 = .ok v' w2) ∧ x'.rep w (okB W0 ok0 S0 mm β w) β v' ∧ K x' := by
    intro r hr hk
    obtain ⟨hs, ⟨hi⟩, hk⟩ := lenK_ok hk
    obtain ⟨_, f, hk, hf⟩ := cellK_ok hk
    cases hq : Nat.beq te.cells r.width with
    | false => rw [hq] at hk; exact hk.elim
    | true =>
      rw [hq] at hk
      have hq' := Nat.eq_of_beq_eq_true hq
      obtain ⟨A, c, rfl, hcap, hcell⟩ := (DV.rep_sl hs v).1 hr
      obtain ⟨ad, rfl, hok, hcell⟩ := hcell (by omega)
      refine ⟨.ep r.width f, _, fun w2 => run_index (w := w2) hu T ad _ c ki i hi, ⟨_, rfl, fun _ => ?_, fun j hj => ?_⟩, hk⟩
      · rw [show (ad.add (i.toNat * te.cells)).block = ad.block from by unfold Addr.add; split <;> rfl]; exact hok
      · obtain ⟨u, hu, h1u, hr⟩ := hcell i.toNat (by omega) j hj
        exact ⟨u, by rw [add_add, hq']; exact hu, h1u, by rw [hf]; exact hr⟩
  split at hk
  · exact data _ hx hk
  · exact data _ hx.1 hk
  · rename_i b n _
    obtain ⟨⟨hi⟩, hk⟩ := hk
    have hv : (β b).own n v := hx
    unfold Ent.own at hv
    split at hv
    · omega
    · obtain ⟨rfl, hcap⟩ := hv
      refine ⟨.rp b te.cells i.toNat 0, _, fun w2 => run_index (w := w2) hu T _ n _ ki i hi, ?_, hk⟩
      rw [add_plain0]
      simp [AV.rep]
  · rename_i b k off n _
    obtain ⟨⟨hi⟩, hk⟩ := hk
    cases hq : Nat.beq te.cells k with
    | false => rw [hq] at hk; exact hk.elim
    | true =>
      rw [hq] at hk
      have hq' := Nat.eq_of_beq_eq_true hq
      obtain ⟨A, c, rfl, hcap, hA⟩ := hx
      have hA := hA (by omega)
      subst hA
      refine ⟨.rp b k (off + i.toNat) 0, _, fun w2 => run_index (w := w2) hu T _ n _ ki i hi, ?_, hk⟩
      rw [add_plain0, hq']
      simp [AV.rep, Nat.add_mul]
  · exact hk.elim
theorem op_indexAddr (h : SRep cx W0 ok0 S0 β0 tm mm β a w) (hc : Cok P cx W0 ok0 S0) (t : TypeId) (x i : Operand) (ho : o.op = .indexAddr t x i)
    (hk : evK cx x tm fun a => evK cx i tm fun i => intK i fun _ i => indexAddrK cx t a i fun a => putK cx o.dst a tm fun tm => K tm mm) : GoesP P cx W0 ok0 S0 β0 o a w mm β K := by
  obtain ⟨x', hx, hk⟩ := evK_ok h hc x _ hk
  obtain ⟨i', hi, hk2⟩ := evK_ok h hc i _ hk
  obtain ⟨ki, n, rfl, hk3⟩ := intK_ok hk2
  obtain ⟨y, v, hr, hy, hk4⟩ := indexAddrK_ok h hc hk3 hx ki
  have hi : a.eval i = .int ki n := hi
  exact goes_put h (fun w2 _ => by simp [execOp, ho, hi, hr]) hk4 hy

theorem op_field (h : SRep cx W0 ok0 S0 β0 tm mm β a w) (hc : Cok P cx W0 ok0 S0) (t : TypeId) (x : Operand) (j : Nat) (ho : o.op = .field t x j)
    (hk : evK cx x tm fun a => fieldK cx t a j fun a => putK cx o.dst a tm fun tm => K tm mm) : GoesP P cx W0 ok0 S0 β0 o a w mm β K := by
  obtain ⟨x', hx, hk⟩ := evK_ok h hc x _ hk
  unfold fieldK at hk
  split at hk
  · exact hk.elim
  rename_i ti hti
  have T := hc.tb t ti hti
  cases hkd : Nat.beq ti.kind 1 with
  | false => rw [hkd] at hk; exact hk.elim
  | true =>
    rw [hkd] at hk
    obtain ⟨⟨off, size, ag⟩, hoff, hk⟩ := nthK_ok _ _ hk
    obtain ⟨fs, hu, hf⟩ := T.str (Nat.eq_of_beq_eq_true hkd)
    obtain ⟨f, hf1, hf2, ⟨i, hi1, hi2⟩, hf3, hf4⟩ := hf j off size ag hoff
    simp only at hk
    split at hk
    · rename_i cs _
      obtain ⟨vs, e, ho1, hr⟩ := hx
      obtain ⟨hk, hlen⟩ := takeK_is _ _ _ hk
      have hvl := reps_len _ hr
      have hr' := reps_take size _ (reps_drop off _ hr)
      have run : ∀ w, (Instr.field t (a.eval x) j).run P w = (part f.type vs.toArray f.offset).run P w := by
        intro w; rw [e]
        simp [Instr.field, run_underlying hu, hf1, asAgg]
      cases ag with
      | true =>
        refine goes_put h (x := .agg ((cs.drop off).take size)) (v := .agg ((vs.drop off).take size).toArray) ?_ hk ⟨_, rfl, fun v hv => ho1 v (List.mem_of_mem_drop (List.mem_of_mem_take hv)), hr'⟩
        intro w2 _
        simp only [execOp, ho]
        simp [run, part, run_isAgg hf3, hf4, run_size hi1, hi2, hf2]
      | false =>
        simp only [cond_false] at hk
        cases hs : Nat.beq size 1 with
        | false => rw [hs] at hk; exact hk.elim
        | true =>
          simp only [hs, cond_true, oneA] at hk
          have hs' := Nat.eq_of_beq_eq_true hs
          split at hk
          · rename_i x0 hx0
            rw [hx0] at hr'
            obtain ⟨u, rest, e1, e2, e3⟩ := hr'
            refine goes_put h (x := x0) (v := u) ?_ hk e2
            have hu : vs[off]? = some u := by
              have := congrArg (fun l => l[0]?) e1
              simpa [List.getElem?_take, List.getElem?_drop, hs'] using this
            intro w2 _
            simp only [execOp, ho]
            simp [run, part, run_isAgg hf3, hf4, hf2, hu]
          · exact hk.elim
    · exact hk.elim
end
end Go.Proofs.YtgdcefohfebleaaDoor.V
/- Operations that leave the world as it is: indexes, cuts, structs built, small builtins, the binary operations put together. -/
set_option linter.unusedVariables false
set_option linter.unusedSimpArgs false
namespace Go.Proofs.YtgdcefohfebleaaDoor.V
open Go Go.RowKit

section
variable {P : Program} {cx : Cx} {W0 : World} {ok0 S0 : Nat → Prop} {β0 : Nat → Ent} {tm : TM} {mm : MM} {β : Nat → Ent} {a : Act} {w : World} {o : Oper} {Q : Exit → Act → World → Prop} {K : TM → MM → Prop}

/-! ### x[i] of a string, of an array -/
theorem part_ok {t : TypeId} (hu : (P.underlying t).isSome = true) {size : Nat} {ag : Bool} (hs : ∃ i, P.info? t = some i ∧ i.size = size) (ha : aggB P t = ag) {ok : Nat → Prop} {cs : List AV} {vs : List Value} (ho1 : ∀ v ∈ vs, one v = true) (hr : AV.reps w ok β cs vs) (off : Nat) {K : AV → Prop}
    (hk : takeK off size cs fun l => bif ag then K (.agg l) else oneA l K) :
    ∃ x' v', (∀ w2, (part t vs.toArray off).run P w2 = .ok v' w2) ∧ x'.rep w ok β v' ∧ K x' := by
  obtain ⟨i, hi1, hi2⟩ := hs
  obtain ⟨hk, hlen⟩ := takeK_is _ _ _ hk
  have hr' := reps_take size _ (reps_drop off _ hr)
  cases ag with
  | true =>
    refine ⟨.agg ((cs.drop off).take size), .agg ((vs.drop off).take size).toArray, ?_, ⟨_, rfl, fun v hv => ho1 v (List.mem_of_mem_drop (List.mem_of_mem_take hv)), hr'⟩, hk⟩
    intro w2; simp [part, run_isAgg hu, ha, run_size hi1, hi2]
  | false =>
    simp only [cond_false, oneA] at hk
    split at hk
    · rename_i x0 hx0
      rw [hx0] at hr'
      obtain ⟨u, rest, e1, e2, e3⟩ := hr'
      have hu' : vs[off]? = some u := by
        have := congrArg (fun l => l[0]?) e1
        simp only [List.getElem?_take, List.getElem?_drop] at this
        split at this
        · simpa using this
        · simp at this
      exact ⟨x0, u, fun w2 => by simp [part, run_isAgg hu, ha, hu'], e2, hk⟩
    · exact hk.elim
theorem arrK_ok {size : Nat} {ag : Bool} {i : Int} {cs : List AV} {K : AV → Prop} : ∀ (m j : Nat), arrK size ag i j m cs K → (j : Int) ≤ i → i < (j : Int) + m → takeK (i.toNat * size) size cs fun l => bif ag then K (.agg l) else oneA l K
  | 0, j, _, h1, h2 => by omega
  | m + 1, j, h, h1, h2 => by
    simp only [arrK] at h
    by_cases e : i = (j : Int)
    · have := h.1 e
      rw [e]
      simpa using this
    · exact arrK_ok m (j + 1) h.2 (by omega) (by omega)
theorem strT_ok (hc : Cok P cx W0 ok0 S0) {t : TypeId} {K : Prop} (h : strT cx t K) : P.underlying t = some .string ∧ K := by
  unfold strT at h
  split at h
  · exact h.elim
  rename_i ti hti
  cases hk : Nat.beq ti.kind 4 with
  | false => rw [hk] at h; exact h.elim
  | true => rw [hk] at h; exact ⟨(hc.tb t ti hti).st (Nat.eq_of_beq_eq_true hk), h⟩
theorem op_index (h : SRep cx W0 ok0 S0 β0 tm mm β a w) (hc : Cok P cx W0 ok0 S0) (t : TypeId) (x i : Operand) (ho : o.op = .index t x i)
    (hk : evK cx x tm fun a => evK cx i tm fun i => intK i fun _ i => indexK cx t a i fun a => putK cx o.dst a tm fun tm => K tm mm) : GoesP P cx W0 ok0 S0 β0 o a w mm β K := by
  obtain ⟨x', hx, hk⟩ := evK_ok h hc x _ hk
  obtain ⟨i', hi, hk2⟩ := evK_ok h hc i _ hk
  obtain ⟨ki, n, rfl, hk3⟩ := intK_ok hk2
  have hi : a.eval i = .int ki n := hi
  unfold indexK at hk3
  split at hk3
  · rename_i s
    obtain ⟨hus, ⟨hb⟩, hk3⟩ := strT_ok hc hk3
    have hx : a.eval x = .string s := hx
    refine goes_put h ?_ hk3 rfl
    intro w2 _
    obtain ⟨m, rfl⟩ := Int.eq_ofNat_of_zero_le hb.1
    have hm : m < s.size := by omega
    simp only [execOp, ho, hx, hi]
    have e : s[m]? = some s[m] := by simp [hm]
    have e2 : s.data.getD m 0 = s[m] := by
      have hm' : m < s.data.size := hm
      rw [Array.getD_eq_getD_getElem?, show s.data[m]? = some s.data[m] from by simp [hm']]
      rfl
    rw [Int.toNat_natCast, e2]
    simp [Instr.index, asIntOf, run_underlying hus, e]
  · rename_i cs _ _
    split at hk3
    · exact hk3.elim
    rename_i ti hti
    have T := hc.tb t ti hti
    cases hkd : Nat.beq ti.kind 2 with
    | false => rw [hkd] at hk3; exact hk3.elim
    | true =>
      rw [hkd] at hk3
      simp only [cond_true] at hk3
      split at hk3
      · rename_i len size ag hoff
        obtain ⟨⟨hb⟩, hk3⟩ := hk3
        obtain ⟨hu, hs1, hs2, hs3⟩ := T.arr (Nat.eq_of_beq_eq_true hkd) len size ag hoff
        obtain ⟨vs, e, ho1, hr⟩ := hx
        obtain ⟨x2, v2, hr2, hx2, hk4⟩ := part_ok hs2 hs1 hs3 ho1 hr _ (arrK_ok _ _ hk3 (by omega) (by omega))
        refine goes_put h (v := v2) ?_ hk4 hx2
        obtain ⟨ii, hi1, hi2⟩ := hs1
        intro w2 _
        simp only [execOp, ho, hi, e]
        simp [Instr.index, asIntOf, run_underlying hu, hb, run_size hi1, hi2, hr2]
      · exact hk3.elim
  · exact hk3.elim

/-! ### cuts -/
theorem optK_ok (h : SRep cx W0 ok0 S0 β0 tm mm β a w) (hc : Cok P cx W0 ok0 S0) {x : Option Operand} {d : Int} {K : Int → Prop} (hk : optK cx x tm d K) :
    ∃ i, K i ∧ ((x = none ∧ i = d) ∨ ∃ y k, x = some y ∧ a.eval y = .int k i) := by
  cases x with
  | none => exact ⟨d, hk, .inl ⟨rfl, rfl⟩⟩
  | some y =>
    obtain ⟨x', hx, hk⟩ := evK_ok h hc y _ hk
    obtain ⟨k, n, rfl, hk2⟩ := intK_ok hk
    exact ⟨n, hk2, .inr ⟨y, k, rfl, hx⟩⟩
theorem run_bound (k : IntKind) (i : Int) (y : Nat) (code : BoundsCode) (h0 : 0 ≤ i) (h1 : i ≤ y) : (Instr.sliceBound (.int k i) y code).run P w = .ok i.toNat w := by
  simp [Instr.sliceBound, asIntOf, h0, h1]
/-- The three bounds of a cut, as the operands have them. -/
theorem run_bounds {isS : Bool} {len cap : Nat} {lo hi : Option Operand} {l hh : Int}
    (hl : (lo = none ∧ l = 0) ∨ ∃ y k, lo = some y ∧ a.eval y = .int k l) (hhi : (hi = none ∧ hh = len) ∨ ∃ y k, hi = some y ∧ a.eval y = .int k hh) (hb : 0 ≤ l ∧ l ≤ hh ∧ hh ≤ len) (hcap : len ≤ cap) :
    (Instr.sliceBounds isS len cap (lo.map a.eval) (hi.map a.eval) none).run P w = .ok (l.toNat, hh.toNat, cap) w := by
  unfold Instr.sliceBounds
  rcases hhi with ⟨rfl, rfl⟩ | ⟨y, k, rfl, e⟩ <;> rcases hl with ⟨rfl, rfl⟩ | ⟨y', k', rfl, e'⟩
  · simp
  · simp [e', run_bound k' l len _ hb.1 hb.2.1]
  · simp [e, run_bound k hh cap _ (by omega) (by omega)]
  · simp only [Option.map_some, e, e', Sem.run_bind, Sem.run_pure, Result.andThen_ok, run_bound k hh cap _ (show 0 ≤ hh by omega) (show hh ≤ cap by omega)]
    have : ((hh.toNat : Nat) : Int) = hh := by omega
    simp [run_bound k' l hh.toNat _ hb.1 (by omega)]
theorem run_bounds3 {len cap : Nat} {lo hi : Option Operand} {mx : Operand} {l hh m : Int}
    (hl : (lo = none ∧ l = 0) ∨ ∃ y k, lo = some y ∧ a.eval y = .int k l) (hhi : ∃ y k, hi = some y ∧ a.eval y = .int k hh) (hm : ∃ k, a.eval mx = .int k m) (hb : 0 ≤ l ∧ l ≤ hh ∧ hh ≤ len ∧ m = hh) (hcap : len ≤ cap) :
    (Instr.sliceBounds true len cap (lo.map a.eval) (hi.map a.eval) (some (a.eval mx))).run P w = .ok (l.toNat, hh.toNat, hh.toNat) w := by
  unfold Instr.sliceBounds
  obtain ⟨km, em⟩ := hm
  obtain ⟨y, k, rfl, e⟩ := hhi
  obtain ⟨h0, h1, h2, rfl⟩ := hb
  have e1 : ((m.toNat : Nat) : Int) = m := by omega
  rcases hl with ⟨rfl, rfl⟩ | ⟨y', k', rfl, e'⟩
  · simp only [Option.map_some, Option.map_none, em, e, Sem.run_bind, Sem.run_pure, Result.andThen_ok, if_true, run_bound km m cap _ (show 0 ≤ m by omega) (show m ≤ cap by omega), run_bound k m m.toNat _ (show 0 ≤ m by omega) (by omega)]
    simp
  · simp only [Option.map_some, em, e, e', Sem.run_bind, Sem.run_pure, Result.andThen_ok, if_true, run_bound km m cap _ (show 0 ≤ m by omega) (show m ≤ cap by omega), run_bound k m m.toNat _ (show 0 ≤ m by omega) (by omega)]
    simp [run_bound k' l m.toNat _ h0 (by omega)]
theorem cutDV_ok {r : DV} {lo hi : Nat} {K : DV → Prop} (h : cutDV r lo hi K) (hle : lo ≤ hi) (hn : hi ≤ r.len) : ∃ r', K r' ∧ r'.isSl = true ∧ r'.len = hi - lo ∧ r'.width = r.width ∧ ∀ i j, i < hi - lo → r'.cell i j = r.cell (lo + i) j := by
  cases r with
  | v _ => exact h.elim
  | fn _ _ _ _ => exact h.elim
  | ep _ _ => exact h.elim
  | ints k l =>
    refine ⟨_, h, rfl, ?_, rfl, fun i j hi' => ?_⟩
    · simp only [DV.len, List.length_drop, List.length_take] at hn ⊢; omega
    · simp only [DV.cell, List.getD_eq_getElem?_getD, List.getElem?_drop, List.getElem?_take, if_pos (show lo + i < hi by omega)]
  | bools l =>
    refine ⟨_, h, rfl, ?_, rfl, fun i j hi' => ?_⟩
    · simp only [DV.len, List.length_drop, List.length_take] at hn ⊢; omega
    · simp only [DV.cell, List.getD_eq_getElem?_getD, List.getElem?_drop, List.getElem?_take, if_pos (show lo + i < hi by omega)]
  | strs l =>
    refine ⟨_, h, rfl, ?_, rfl, fun i j hi' => ?_⟩
    · simp only [DV.len, List.length_drop, List.length_take] at hn ⊢; omega
    · simp only [DV.cell, List.getD_eq_getElem?_getD, List.getElem?_drop, List.getElem?_take, if_pos (show lo + i < hi by omega)]
  | gen k n el => exact ⟨_, h, rfl, rfl, rfl, fun _ _ _ => rfl⟩
/-- A slice's cut as data. -/
theorem cut_rep {ok : Nat → Prop} {r r' : DV} {A : Option Addr} {c lo hi m : Nat} (hs : r.isSl = true) (hr : r.rep w ok (.slice A r.len c)) (hs' : r'.isSl = true) (hle : lo ≤ hi) (hn : hi ≤ r.len) (hm : hi ≤ m) (hmc : m ≤ c)
    (hl : r'.len = hi - lo) (hw : r'.width = r.width) (hcell : ∀ i j, i < hi - lo → r'.cell i j = r.cell (lo + i) j) :
    r'.rep w ok (.slice (if m = lo then A else A.map (·.add (lo * r.width))) (hi - lo) (m - lo)) := by
  rw [DV.rep_sl hs']
  obtain ⟨A', c', e, hcap, h⟩ := (DV.rep_sl hs _).1 hr
  cases e
  rw [hl]
  refine ⟨_, _, rfl, by omega, fun hpos => ?_⟩
  obtain ⟨ad, rfl, hok, hc⟩ := h (by omega)
  rw [if_neg (by omega)]
  refine ⟨_, rfl, ?_, fun i hi' j hj => ?_⟩
  · rw [show (ad.add (lo * r.width)).block = ad.block from by unfold Addr.add; split <;> rfl]; exact hok
  · obtain ⟨u, hu, h1u, hr⟩ := hc (lo + i) (by omega) j (by omega)
    refine ⟨u, ?_, h1u, by show DV.rep _ _ _ _; rw [hcell i j hi']; exact hr⟩
    rw [add_add, hw, show lo * r.width + (i * r.width + j) = (lo + i) * r.width + j by rw [Nat.add_mul]; omega]
    exact hu
end
end Go.Proofs.YtgdcefohfebleaaDoor.V
/- Operations that leave the world as it is: cuts, structs built, small builtins, binary operations. -/
set_option linter.unusedVariables false
set_option linter.unusedSimpArgs false
namespace Go.Proofs.YtgdcefohfebleaaDoor.V
open Go Go.RowKit

section
variable {P : Program} {cx : Cx} {W0 : World} {ok0 S0 : Nat → Prop} {β0 : Nat → Ent} {tm : TM} {mm : MM} {β : Nat → Ent} {a : Act} {w : World} {o : Oper} {Q : Exit → Act → World → Prop} {K : TM → MM → Prop}

theorem run_cut {t e : TypeId} {te : TI} (hu : P.underlying t = some (.slice e)) (T : TIok P e te) {A : Option Addr} {len c : Nat} {lo hi mx : Option Value} {l h m : Nat}
    (hb : (Instr.sliceBounds true len c lo hi mx).run P w = .ok (l, h, m) w) :
    (Instr.sliceAt t (.slice A len c) lo hi mx).run P w = .ok (.slice (if m = l then A else A.map (·.add (l * te.cells))) (h - l) (m - l)) w := by
  simp [Instr.sliceAt, run_underlying hu, Instr.slice, hb, T.size]
theorem cutK_ok (h : SRep cx W0 ok0 S0 β0 tm mm β a w) (hc : Cok P cx W0 ok0 S0) {t e : TypeId} {te : TI} (hu : P.underlying t = some (.slice e)) (T : TIok P e te) {r : DV} {lo hi mx : Option Operand} {K : AV → Prop}
    (hk : cutK cx te r lo hi mx tm K) {v : Value} (hr : r.rep w (okB W0 ok0 S0 mm β w) v) :
    ∃ x' v', (∀ w2, (Instr.sliceAt t v (lo.map a.eval) (hi.map a.eval) (mx.map a.eval)).run P w2 = .ok v' w2) ∧ x'.rep w (okB W0 ok0 S0 mm β w) β v' ∧ K x' := by
  unfold cutK at hk
  obtain ⟨hs, hk⟩ := lenK_ok hk
  cases hq : Nat.beq te.cells r.width with
  | false => rw [hq] at hk; exact hk.elim
  | true =>
    simp only [hq, cond_true] at hk
    have hq' := Nat.eq_of_beq_eq_true hq
    obtain ⟨l, hk, hl⟩ := optK_ok h hc hk
    obtain ⟨hh, hk, hhi⟩ := optK_ok h hc hk
    obtain ⟨A, c, rfl, hcap, _⟩ := sl_form hs hr
    cases mx with
    | none =>
      obtain ⟨⟨hb⟩, hk⟩ := hk
      obtain ⟨r', hk, hs', h1, h2, h3⟩ := cutDV_ok hk (by omega) (by omega)
      refine ⟨.d r', _, fun w2 => run_cut (w := w2) hu T (run_bounds hl hhi hb hcap), ?_, hk⟩
      rw [hq']
      exact cut_rep hs hr hs' (by omega) (by omega) (by omega) (Nat.le_refl _) h1 h2 h3
    | some m =>
      cases hi with
      | none => exact hk.elim
      | some hi =>
        obtain ⟨mm', hk, hm⟩ := optK_ok h hc hk
        obtain ⟨⟨hb⟩, hk⟩ := hk
        obtain ⟨r', hk, hs', h1, h2, h3⟩ := cutDV_ok hk (by omega) (by omega)
        have hhi' : ∃ y k, some hi = some y ∧ a.eval y = .int k hh := by
          rcases hhi with ⟨e, _⟩ | e
          · cases e
          · exact e
        have hm' : ∃ k, a.eval m = .int k mm' := by
          rcases hm with ⟨e, _⟩ | ⟨y, k, e, e2⟩
          · cases e
          · cases e; exact ⟨k, e2⟩
        refine ⟨.full r', _, fun w2 => run_cut (w := w2) hu T (run_bounds3 hl hhi' hm' hb hcap), ⟨?_, _, _, rfl⟩, hk⟩
        rw [hq']
        exact cut_rep hs hr hs' (by omega) (by omega) (by omega) (by omega) h1 h2 h3
theorem sliceK_ok (h : SRep cx W0 ok0 S0 β0 tm mm β a w) (hc : Cok P cx W0 ok0 S0) (t : TypeId) {x : AV} {lo hi mx : Option Operand} {K : AV → Prop} (hk : sliceK cx t x lo hi mx tm K) {v : Value} (hx : x.rep w (okB W0 ok0 S0 mm β w) β v) :
    ∃ x2 v2, (∀ w2, (Instr.sliceAt t v (lo.map a.eval) (hi.map a.eval) (mx.map a.eval)).run P w2 = .ok v2 w2) ∧ x2.rep w (okB W0 ok0 S0 mm β w) β v2 ∧ K x2 := by
  unfold sliceK at hk
  split at hk
  · rename_i s
    have hx : v = .string s := hx
    split at hk
    · obtain ⟨hus, hk⟩ := strT_ok hc hk
      obtain ⟨l, hk, hl⟩ := optK_ok h hc hk
      obtain ⟨hh, hk, hhi⟩ := optK_ok h hc hk
      obtain ⟨⟨hb⟩, hk⟩ := hk
      refine ⟨.d (.v (.string (s.extract l.toNat hh.toNat))), .string (s.extract l.toNat hh.toNat), ?_, rfl, hk⟩
      intro w2; rw [hx]
      simp [Instr.sliceAt, run_underlying hus, Instr.slice, run_bounds hl hhi hb (Nat.le_refl _)]
    · exact hk.elim
  · have hx : v = .slice none 0 0 := hx
    split at hk
    · split at hk
      · obtain ⟨e, te, hu, T, hk⟩ := ewK_ok hc hk
        obtain ⟨hh, hk, hhi⟩ := optK_ok h hc hk
        obtain ⟨⟨rfl⟩, hk⟩ := hk
        refine ⟨.d (.v (.slice none 0 0)), .slice none 0 0, fun w2 => ?_, ?_, hk⟩
        · have := run_cut (w := w2) (A := none) hu T (run_bounds (P := P) (w := w2) (a := a) (isS := true) (len := 0) (cap := 0) (lo := none) (l := 0) (.inl ⟨rfl, rfl⟩) hhi (by omega) (Nat.le_refl _))
          rw [hx]
          simpa using this
        · rfl
      · exact hk.elim
    · exact hk.elim
  · obtain ⟨e, te, hu, T, hk⟩ := ewK_ok hc hk
    exact cutK_ok h hc hu T hk hx
  · obtain ⟨e, te, hu, T, hk⟩ := ewK_ok hc hk
    exact cutK_ok h hc hu T hk hx.1
  · rename_i b n
    obtain ⟨e, te, hu, T, hk⟩ := ewK_ok hc hk
    have hv : (β b).own n v := hx
    split at hk
    · split at hk
      · obtain ⟨hh, hk1, hhi⟩ := optK_ok h hc hk
        obtain ⟨⟨hb⟩, hk2⟩ := hk1
        clear hk
        unfold Ent.own at hv
        split at hv
        · rename_i hn
          obtain ⟨rfl, A, e1⟩ := hv
          refine ⟨.own b hh.toNat, .slice A 0 0, ?_, ?_, hk2⟩
          · intro w2; rw [e1]
            have := run_cut (P := P) (w := w2) hu T (A := A) (run_bounds (P := P) (w := w2) (a := a) (isS := true) (len := 0) (cap := 0) (lo := none) (l := 0) (.inl ⟨rfl, rfl⟩) hhi (by omega) (Nat.le_refl _))
            simp only [Option.map_none] at this ⊢
            rw [this]
            simp
            omega
          · show (β b).own _ _
            unfold Ent.own
            rw [if_pos hn]
            exact ⟨by omega, A, rfl⟩
        · rename_i hn
          obtain ⟨e1, hcap⟩ := hv
          refine ⟨.own b hh.toNat, .slice (some ⟨(β b).blk, 0, none⟩) hh.toNat (β b).cap, ?_, ?_, hk2⟩
          · intro w2; rw [e1]
            have := run_cut (P := P) (w := w2) hu T (A := some ⟨(β b).blk, 0, none⟩) (run_bounds (P := P) (w := w2) (a := a) (isS := true) (lo := none) (l := 0) (.inl ⟨rfl, rfl⟩) hhi (by omega) hcap)
            simp only [Option.map_none] at this ⊢
            rw [this]
            simp [Addr.add]
          · show (β b).own _ _
            unfold Ent.own
            rw [if_neg hn]
            exact ⟨rfl, by omega⟩
      · obtain ⟨l, hk1, hl⟩ := optK_ok h hc hk
        obtain ⟨hh, hk2, hhi⟩ := optK_ok h hc hk1
        obtain ⟨⟨hb⟩, hk3⟩ := hk2
        clear hk hk1
        unfold Ent.own at hv
        split at hv
        · rename_i hn
          obtain ⟨rfl, A, e1⟩ := hv
          refine ⟨.seg b te.cells l.toNat (hh.toNat - l.toNat), .slice A 0 0, ?_, ?_, hk3⟩
          · intro w2; rw [e1]
            have := run_cut (P := P) (w := w2) hu T (A := A) (run_bounds (P := P) (w := w2) (a := a) (isS := true) (len := 0) (cap := 0) hl hhi (by omega) (Nat.le_refl _))
            simp only [Option.map_none] at this ⊢
            rw [this]
            have : l.toNat = 0 := by omega
            simp [this]
            omega
          · exact ⟨A, 0, by rw [show hh.toNat - l.toNat = 0 by omega], by omega, fun hp => by omega⟩
        · rename_i hn
          obtain ⟨e1, hcap⟩ := hv
          refine ⟨.seg b te.cells l.toNat (hh.toNat - l.toNat), .slice (if (β b).cap = l.toNat then some ⟨(β b).blk, 0, none⟩ else (some (⟨(β b).blk, 0, none⟩ : Addr)).map (·.add (l.toNat * te.cells))) (hh.toNat - l.toNat) ((β b).cap - l.toNat), ?_, ?_, hk3⟩
          · intro w2; rw [e1]
            exact run_cut (P := P) (w := w2) hu T (run_bounds (P := P) (w := w2) (a := a) (isS := true) hl hhi (by omega) hcap)
          · exact ⟨_, _, rfl, by omega, fun hp => by rw [if_neg (by omega), Option.map_some, add_plain0, Nat.zero_add]⟩
    · exact hk.elim
  · rename_i b k off n
    obtain ⟨e, te, hu, T, hk⟩ := ewK_ok hc hk
    split at hk
    · obtain ⟨l, hk, hl⟩ := optK_ok h hc hk
      obtain ⟨hh, hk, hhi⟩ := optK_ok h hc hk
      obtain ⟨⟨hb⟩, hk⟩ := hk
      cases hq : Nat.beq te.cells k with
      | false => rw [hq] at hk; exact hk.elim
      | true =>
        simp only [hq, cond_true] at hk
        have hq' := Nat.eq_of_beq_eq_true hq
        obtain ⟨A, c, e1, hcap, hA⟩ := hx
        refine ⟨.seg b k (off + l.toNat) (hh.toNat - l.toNat), .slice (if c = l.toNat then A else A.map (·.add (l.toNat * te.cells))) (hh.toNat - l.toNat) (c - l.toNat), ?_, ?_, hk⟩
        · intro w2; rw [e1]
          exact run_cut (P := P) (w := w2) hu T (run_bounds (P := P) (w := w2) (a := a) (isS := true) hl hhi (by omega) hcap)
        · refine ⟨_, _, rfl, by omega, fun hp => ?_⟩
          rw [if_neg (by omega), hA (by omega), Option.map_some, add_plain0, hq', Nat.add_mul]
    · exact hk.elim
  · exact hk.elim

theorem op_slice (h : SRep cx W0 ok0 S0 β0 tm mm β a w) (hc : Cok P cx W0 ok0 S0) (t : TypeId) (x : Operand) (lo hi mx : Option Operand) (ho : o.op = .slice t x lo hi mx)
    (hk : evK cx x tm fun a => sliceK cx t a lo hi mx tm fun a => putK cx o.dst a tm fun tm => K tm mm) : GoesP P cx W0 ok0 S0 β0 o a w mm β K := by
  obtain ⟨x', hx, hk⟩ := evK_ok h hc x _ hk
  obtain ⟨x2, v2, hr, hx2, hk2⟩ := sliceK_ok h hc t hk hx
  exact goes_put h (fun w2 _ => by simp [execOp, ho, hr]) hk2 hx2

/-! ### len, min, max -/
theorem op_len (h : SRep cx W0 ok0 S0 β0 tm mm β a w) (hc : Cok P cx W0 ok0 S0) (t ty : TypeId) {x : AV} {K : AV → Prop}
    (hk : match x with
        | .d (.v (.string s)) => strT cx t (K (.d (.v (.int .i64 s.size))))
        | .d (.v (.slice none 0 0)) => ewK cx t fun _ _ => K (.d (.v (.int .i64 0)))
        | .d r => ewK cx t fun _ _ => lenK r fun n => K (.d (.v (.int .i64 n)))
        | .full r => ewK cx t fun _ _ => lenK r fun n => K (.d (.v (.int .i64 n)))
        | .own _ n => ewK cx t fun _ _ => K (.d (.v (.int .i64 n)))
        | .seg _ _ _ n => ewK cx t fun _ _ => K (.d (.v (.int .i64 n)))
        | _ => False) {v : Value} (hx : x.rep w (okB W0 ok0 S0 mm β w) β v) : ∃ u, (∀ w2, (Builtin.len_ #[t] ty #[v]).run P w2 = .ok u w2) ∧ K (.d (.v u)) := by
  have sl : ∀ {A : Option Addr} {n c : Nat} {e : TypeId}, P.underlying t = some (.slice e) → ∀ w, (Builtin.len_ #[t] ty #[.slice A n c]).run P w = .ok (.int .i64 n) w := by
    intro A n c e hu w
    simp [Builtin.len_, run_underlying hu, goInt]
  split at hk
  · rename_i s
    obtain ⟨hu, hk⟩ := strT_ok hc hk
    have hx : v = .string s := hx
    exact ⟨_, fun w2 => by rw [hx]; first | (simp [Builtin.len_, run_underlying hu, goInt]; done) | (simp [Builtin.len_, run_underlying hu, goInt]; rfl), hk⟩
  · obtain ⟨e, te, hu, T, hk⟩ := ewK_ok hc hk
    have hx : v = .slice none 0 0 := hx
    exact ⟨_, by rw [hx]; exact sl hu, hk⟩
  · obtain ⟨e, te, hu, T, hk⟩ := ewK_ok hc hk
    obtain ⟨hs, hk⟩ := lenK_ok hk
    obtain ⟨A, c, rfl, _⟩ := sl_form hs hx
    exact ⟨_, sl hu, hk⟩
  · obtain ⟨e, te, hu, T, hk⟩ := ewK_ok hc hk
    obtain ⟨hs, hk⟩ := lenK_ok hk
    obtain ⟨A, c, rfl, _⟩ := sl_form hs hx.1
    exact ⟨_, sl hu, hk⟩
  · obtain ⟨e, te, hu, T, hk⟩ := ewK_ok hc hk
    have hv : Ent.own _ _ v := hx
    unfold Ent.own at hv
    split at hv
    · obtain ⟨rfl, A, rfl⟩ := hv; exact ⟨_, sl hu, hk⟩
    · obtain ⟨rfl, _⟩ := hv; exact ⟨_, sl hu, hk⟩
  · obtain ⟨e, te, hu, T, hk⟩ := ewK_ok hc hk
    obtain ⟨A, c, rfl, _⟩ := hx
    exact ⟨_, sl hu, hk⟩
  · exact hk.elim
end
end Go.Proofs.YtgdcefohfebleaaDoor.V
