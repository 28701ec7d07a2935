/-
  Proved here, step by step for the theorem UW: What abstract values say of a world, and what of it stays when the world goes on.; The state: what slots and blocks of the call's own say of a frame and a world; how it goes on.; Types, operands, and what operations yield that leave the world as it is.
  Conditions: those that stand in each theorem.
-/
import Derived.Below
import Derived.Orders
import Derived.OrdersIn
import Derived.Laws.Slices
import Derived.Laws.Cells
import Derived.Test.YtgdcefohfebleaaDoorM00
/- What abstract values say of a world, and what of it stays when the world goes on. -/
set_option linter.unusedVariables false
namespace Go.Proofs.YtgdcefohfebleaaDoor.V
open Go Go.RowKit

/-- A value of one cell. -/
def one : Value → Bool
  | .agg _ | .tuple _ => false
  | _ => true
/-- A slice of n elements of k cells in blocks that satisfy ok. -/
def SliceAt (w : World) (ok : Nat → Prop) (y : Value) (k n : Nat) (R : Nat → Nat → Value → Prop) : Prop :=
  ∃ A c, y = .slice A n c ∧ n ≤ c ∧ (0 < n → ∃ ad : Addr, A = some ad ∧ ok ad.block ∧ ∀ i, i < n → ∀ j, j < k → ∃ u, w.cell? (ad.add (i * k + j)) = some u ∧ one u = true ∧ R i j u)

def DV.rep (w : World) (ok : Nat → Prop) : DV → Value → Prop
  | .v x, y => y = x
  | .ints k l, y => SliceAt w ok y 1 l.length fun i _ u => u = .int k (l.getD i 0)
  | .bools l, y => SliceAt w ok y 1 l.length fun i _ u => u = .bool (l.getD i false)
  | .strs l, y => SliceAt w ok y 1 l.length fun i _ u => u = .string (l.getD i ByteArray.empty)
  | .gen k n el, y => SliceAt w ok y k n fun i j u => (el i j).rep w ok u
  | .fn _ g n caps, y => ∃ vs : List Value, y = .func (.func g) #[] vs.toArray ∧ vs.length = n ∧ ∀ j u, vs[j]? = some u → (caps j).rep w ok u
  | .ep m f, y => ∃ ad : Addr, y = .pointer (some ad) ∧ (0 < m → ok ad.block) ∧ ∀ j, j < m → ∃ u, w.cell? (ad.add j) = some u ∧ one u = true ∧ (f j).rep w ok u

theorem DV.rep_sl {w : World} {ok : Nat → Prop} {r : DV} (hr : r.isSl = true) (y : Value) :
    r.rep w ok y ↔ SliceAt w ok y r.width r.len fun i j u => (r.cell i j).rep w ok u := by
  cases r <;> first | (simp [DV.isSl] at hr; done) | rfl

theorem SliceAt.mono {w w' : World} {ok ok' : Nat → Prop} {y : Value} {k n : Nat} {R R' : Nat → Nat → Value → Prop}
    (h : SliceAt w ok y k n R) (hw : ∀ b, ok b → w'.heap[b]? = w.heap[b]?) (ho : ∀ b, ok b → ok' b) (hR : ∀ i j u, i < n → j < k → R i j u → R' i j u) : SliceAt w' ok' y k n R' := by
  obtain ⟨A, c, rfl, hc, h⟩ := h
  refine ⟨A, c, rfl, hc, fun hn => ?_⟩
  obtain ⟨ad, rfl, hok, h⟩ := h hn
  refine ⟨ad, rfl, ho _ hok, fun i hi j hj => ?_⟩
  obtain ⟨u, hu, h1, hr⟩ := h i hi j hj
  refine ⟨u, ?_, h1, hR i j u hi hj hr⟩
  rw [World.cell?_of_block (w := w) (by rw [show (ad.add (i * k + j)).block = ad.block from by unfold Addr.add; split <;> rfl]; exact hw _ hok)]
  exact hu

theorem DV.rep_mono {w w' : World} {ok ok' : Nat → Prop} (hw : ∀ b, ok b → w'.heap[b]? = w.heap[b]?) (ho : ∀ b, ok b → ok' b) :
    ∀ (r : DV) {y : Value}, r.rep w ok y → r.rep w' ok' y
  | .v _, _, h => h
  | .ints _ _, _, h => SliceAt.mono h hw ho fun _ _ _ _ _ h => h
  | .bools _, _, h => SliceAt.mono h hw ho fun _ _ _ _ _ h => h
  | .strs _, _, h => SliceAt.mono h hw ho fun _ _ _ _ _ h => h
  | .gen _ _ el, _, h => SliceAt.mono h hw ho fun i j _ _ _ h => DV.rep_mono hw ho (el i j) h
  | .fn _ _ _ caps, _, ⟨vs, e, h1, h2⟩ => ⟨vs, e, h1, fun j u hu => DV.rep_mono hw ho (caps j) (h2 j u hu)⟩
  | .ep _ f, _, ⟨ad, e, hb, h⟩ => ⟨ad, e, fun hm => ho _ (hb hm), fun j hj => by
      obtain ⟨u, hu, h1, hr⟩ := h j hj
      refine ⟨u, ?_, h1, DV.rep_mono hw ho (f j) hr⟩
      rw [World.cell?_of_block (w := w) (by rw [show (ad.add j).block = ad.block from by unfold Addr.add; split <;> rfl]; exact hw _ (hb (by omega)))]
      exact hu⟩

theorem SliceAt.cell {w w' : World} {ok ok' : Nat → Prop} {y : Value} {k n : Nat} {R R' : Nat → Nat → Value → Prop}
    (h : SliceAt w ok y k n R) (hc : ∀ (ad : Addr) u, w.cell? ad = some u → w'.cell? ad = some u) (ho : ∀ b, ok b → ok' b) (hR : ∀ i j u, i < n → j < k → R i j u → R' i j u) : SliceAt w' ok' y k n R' := by
  obtain ⟨A, c, rfl, hcap, h⟩ := h
  refine ⟨A, c, rfl, hcap, fun hn => ?_⟩
  obtain ⟨ad, rfl, hok, h⟩ := h hn
  refine ⟨ad, rfl, ho _ hok, fun i hi j hj => ?_⟩
  obtain ⟨u, hu, h1, hr⟩ := h i hi j hj
  exact ⟨u, hc _ _ hu, h1, hR i j u hi hj hr⟩
/-- The cells stay, whatever else turns. -/
theorem DV.rep_cell {w w' : World} {ok ok' : Nat → Prop} (hc : ∀ (ad : Addr) u, w.cell? ad = some u → w'.cell? ad = some u) (ho : ∀ b, ok b → ok' b) :
    ∀ (r : DV) {y : Value}, r.rep w ok y → r.rep w' ok' y
  | .v _, _, h => h
  | .ints _ _, _, h => SliceAt.cell h hc ho fun _ _ _ _ _ h => h
  | .bools _, _, h => SliceAt.cell h hc ho fun _ _ _ _ _ h => h
  | .strs _, _, h => SliceAt.cell h hc ho fun _ _ _ _ _ h => h
  | .gen _ _ el, _, h => SliceAt.cell h hc ho fun i j _ _ _ h => DV.rep_cell hc ho (el i j) h
  | .fn _ _ _ caps, _, ⟨vs, e, h1, h2⟩ => ⟨vs, e, h1, fun j u hu => DV.rep_cell hc ho (caps j) (h2 j u hu)⟩
  | .ep _ f, _, ⟨ad, e, hb, h⟩ => ⟨ad, e, fun hm => ho _ (hb hm), fun j hj => by
      obtain ⟨u, hu, h1, hr⟩ := h j hj
      exact ⟨u, hc _ _ hu, h1, DV.rep_cell hc ho (f j) hr⟩⟩
/-- Where a block of the call's own lies: its number, how many elements fit, whether there is none yet. -/
structure Ent where
  blk : Nat
  cap : Nat
  nil : Bool
def Ent.own (e : Ent) (n : Nat) (y : Value) : Prop :=
  if e.nil = true then n = 0 ∧ ∃ A, y = .slice A 0 0 else y = .slice (some ⟨e.blk, 0, none⟩) n e.cap ∧ n ≤ e.cap

section
variable (w : World) (ok : Nat → Prop) (β : Nat → Ent)
mutual
def AV.rep : AV → Value → Prop
  | .top, _ => True
  | .d x, y => x.rep w ok y
  | .ep m f, y => ∃ ad : Addr, y = .pointer (some ad) ∧ (0 < m → ok ad.block) ∧ ∀ j, j < m → ∃ u, w.cell? (ad.add j) = some u ∧ one u = true ∧ (f j).rep w ok u
  | .bp b j, y => y = .pointer (some ⟨(β b).blk, j, none⟩)
  | .rp b k i j, y => y = .pointer (some ⟨(β b).blk, i * k + j, none⟩)
  | .own b n, y => (β b).own n y
  | .seg b k off n, y => ∃ A c, y = .slice A n c ∧ n ≤ c ∧ (0 < n → A = some ⟨(β b).blk, off * k, none⟩)
  | .full x, y => x.rep w ok y ∧ ∃ A n, y = .slice A n n
  | .agg l, y => ∃ vs : List Value, y = .agg vs.toArray ∧ (∀ v ∈ vs, one v = true) ∧ AV.reps l vs
  | .fn g l, y => ∃ vs : List Value, y = .func (.func g) #[] vs.toArray ∧ AV.reps l vs
  | .clo _ g l, y => ∃ vs : List Value, y = .func (.func g) #[] vs.toArray ∧ AV.reps l vs
  | .yl k T l, y => y = .func (.yield (β k).blk) #[] #[] ∧ AV.reps l T
  | .tup l, y => ∃ vs : List Value, y = .tuple vs.toArray ∧ AV.reps l vs
def AV.reps : List AV → List Value → Prop
  | [], vs => vs = []
  | a :: r, vs => ∃ v rest, vs = v :: rest ∧ AV.rep a v ∧ AV.reps r rest
end
end

/-! A reference to block b. -/
mutual
def AV.refs (b : Nat) : AV → Prop
  | .bp c _ => c = b
  | .rp c _ _ _ => c = b
  | .own c _ => c = b
  | .seg c _ _ _ => c = b
  | .agg l => AV.refsL b l
  | .fn _ l => AV.refsL b l
  | .clo _ _ l => AV.refsL b l
  | .yl c _ l => c = b ∨ AV.refsL b l
  | .tup l => AV.refsL b l
  | _ => False
def AV.refsL (b : Nat) : List AV → Prop
  | [] => False
  | a :: r => AV.refs b a ∨ AV.refsL b r
end

section
variable {w w' : World} {ok ok' : Nat → Prop} {β β' : Nat → Ent}
mutual
theorem AV.rep_mono (hw : ∀ b, ok b → w'.heap[b]? = w.heap[b]?) (ho : ∀ b, ok b → ok' b) :
    ∀ (a : AV) {y : Value}, (∀ b, a.refs b → β' b = β b) → a.rep w ok β y → a.rep w' ok' β' y
  | .top, _, _, _ => trivial
  | .d x, _, _, h => DV.rep_mono hw ho x h
  | .ep m f, _, _, ⟨ad, e, hb, h⟩ => ⟨ad, e, fun hm => ho _ (hb hm), fun j hj => by
      obtain ⟨u, hu, h1, hr⟩ := h j hj
      refine ⟨u, ?_, h1, DV.rep_mono hw ho _ hr⟩
      rw [World.cell?_of_block (w := w) (by rw [show (ad.add j).block = ad.block from by unfold Addr.add; split <;> rfl]; exact hw _ (hb (by omega)))]
      exact hu⟩
  | .bp b j, _, hb, h => by simp only [AV.rep] at h ⊢; rw [hb b rfl]; exact h
  | .rp b k i j, _, hb, h => by simp only [AV.rep] at h ⊢; rw [hb b rfl]; exact h
  | .own b n, _, hb, h => by simp only [AV.rep] at h ⊢; rw [hb b rfl]; exact h
  | .seg b k o n, _, hb, h => by simp only [AV.rep] at h ⊢; rw [hb b rfl]; exact h
  | .full x, _, _, h => ⟨DV.rep_mono hw ho x h.1, h.2⟩
  | .agg l, _, hb, ⟨vs, e, h1, h⟩ => ⟨vs, e, h1, AV.reps_mono hw ho l hb h⟩
  | .fn _ l, _, hb, ⟨vs, e, h⟩ => ⟨vs, e, AV.reps_mono hw ho l hb h⟩
  | .clo _ _ l, _, hb, ⟨vs, e, h⟩ => ⟨vs, e, AV.reps_mono hw ho l hb h⟩
  | .yl c T l, _, hb, ⟨e, h⟩ => ⟨by rw [hb c (.inl rfl)]; exact e, AV.reps_mono hw ho l (fun b hb' => hb b (.inr hb')) h⟩
  | .tup l, _, hb, ⟨vs, e, h⟩ => ⟨vs, e, AV.reps_mono hw ho l hb h⟩
theorem AV.reps_mono (hw : ∀ b, ok b → w'.heap[b]? = w.heap[b]?) (ho : ∀ b, ok b → ok' b) :
    ∀ (l : List AV) {vs : List Value}, (∀ b, AV.refsL b l → β' b = β b) → AV.reps w ok β l vs → AV.reps w' ok' β' l vs
  | [], _, _, h => h
  | a :: r, _, hb, ⟨v, rest, e, h, hr⟩ => ⟨v, rest, e, AV.rep_mono hw ho a (fun b hb' => hb b (.inl hb')) h, AV.reps_mono hw ho r (fun b hb' => hb b (.inr hb')) hr⟩
end
end

section
variable {w w' : World} {ok ok' : Nat → Prop} {β : Nat → Ent}
mutual
theorem AV.rep_cell (hc : ∀ (ad : Addr) u, w.cell? ad = some u → w'.cell? ad = some u) (ho : ∀ b, ok b → ok' b) :
    ∀ (a : AV) {y : Value}, a.rep w ok β y → a.rep w' ok' β y
  | .top, _, _ => trivial
  | .d x, _, h => DV.rep_cell hc ho x h
  | .ep m f, _, ⟨ad, e, hb, h⟩ => ⟨ad, e, fun hm => ho _ (hb hm), fun j hj => by
      obtain ⟨u, hu, h1, hr⟩ := h j hj
      exact ⟨u, hc _ _ hu, h1, DV.rep_cell hc ho _ hr⟩⟩
  | .bp b j, _, h => h
  | .rp b k i j, _, h => h
  | .own b n, _, h => h
  | .seg b k o n, _, h => h
  | .full x, _, h => ⟨DV.rep_cell hc ho x h.1, h.2⟩
  | .agg l, _, ⟨vs, e, h1, h⟩ => ⟨vs, e, h1, AV.reps_cell hc ho l h⟩
  | .fn _ l, _, ⟨vs, e, h⟩ => ⟨vs, e, AV.reps_cell hc ho l h⟩
  | .clo _ _ l, _, ⟨vs, e, h⟩ => ⟨vs, e, AV.reps_cell hc ho l h⟩
  | .yl c T l, _, ⟨e, h⟩ => ⟨e, AV.reps_cell hc ho l h⟩
  | .tup l, _, ⟨vs, e, h⟩ => ⟨vs, e, AV.reps_cell hc ho l h⟩
theorem AV.reps_cell (hc : ∀ (ad : Addr) u, w.cell? ad = some u → w'.cell? ad = some u) (ho : ∀ b, ok b → ok' b) :
    ∀ (l : List AV) {vs : List Value}, AV.reps w ok β l vs → AV.reps w' ok' β l vs
  | [], _, h => h
  | a :: r, _, ⟨v, rest, e, h, hr⟩ => ⟨v, rest, e, AV.rep_cell hc ho a h, AV.reps_cell hc ho r hr⟩
end
end

mutual
theorem AV.kill_refs (b : Nat) : ∀ (a : AV) (c : Nat), (a.kill b).refs c → c ≠ b
  | .top, _, h => h.elim
  | .d _, _, h => h.elim
  | .ep _ _, _, h => h.elim
  | .full _, _, h => h.elim
  | .bp c j, c', h => by
      simp only [AV.kill] at h; cases hb : Nat.beq b c <;> simp only [hb, cond_true, cond_false, AV.refs] at h
      subst h; intro e; subst e; simp at hb
  | .rp c _ _ _, c', h => by
      simp only [AV.kill] at h; cases hb : Nat.beq b c <;> simp only [hb, cond_true, cond_false, AV.refs] at h
      subst h; intro e; subst e; simp at hb
  | .own c _, c', h => by
      simp only [AV.kill] at h; cases hb : Nat.beq b c <;> simp only [hb, cond_true, cond_false, AV.refs] at h
      subst h; intro e; subst e; simp at hb
  | .seg c _ _ _, c', h => by
      simp only [AV.kill] at h; cases hb : Nat.beq b c <;> simp only [hb, cond_true, cond_false, AV.refs] at h
      subst h; intro e; subst e; simp at hb
  | .agg l, c', h => AV.kills_refs b l c' h
  | .fn _ l, c', h => AV.kills_refs b l c' h
  | .clo _ _ l, c', h => AV.kills_refs b l c' h
  | .yl c _ l, c', h => by
      simp only [AV.kill] at h; cases hb : Nat.beq b c <;> simp only [hb, cond_true, cond_false, AV.refs] at h
      rcases h with h | h
      · subst h; intro e; subst e; simp at hb
      · exact AV.kills_refs b l c' h
  | .tup l, c', h => AV.kills_refs b l c' h
theorem AV.kills_refs (b : Nat) : ∀ (l : List AV) (c : Nat), AV.refsL c (AV.kills b l) → c ≠ b
  | [], _, h => h.elim
  | a :: r, c, .inl h => AV.kill_refs b a c h
  | a :: r, c, .inr h => AV.kills_refs b r c h
end
section
variable {w : World} {ok : Nat → Prop} {β : Nat → Ent}
mutual
theorem AV.kill_rep (b : Nat) : ∀ (a : AV) {y : Value}, a.rep w ok β y → (a.kill b).rep w ok β y
  | .top, _, h => h
  | .d _, _, h => h
  | .ep _ _, _, h => h
  | .full _, _, h => h
  | .bp c j, _, h => by simp only [AV.kill]; cases Nat.beq b c <;> first | exact h | exact trivial
  | .rp c _ _ _, _, h => by simp only [AV.kill]; cases Nat.beq b c <;> first | exact h | exact trivial
  | .own c _, _, h => by simp only [AV.kill]; cases Nat.beq b c <;> first | exact h | exact trivial
  | .seg c _ _ _, _, h => by simp only [AV.kill]; cases Nat.beq b c <;> first | exact h | exact trivial
  | .agg l, _, ⟨vs, e, h1, h⟩ => ⟨vs, e, h1, AV.kills_rep b l h⟩
  | .fn _ l, _, ⟨vs, e, h⟩ => ⟨vs, e, AV.kills_rep b l h⟩
  | .clo _ _ l, _, ⟨vs, e, h⟩ => ⟨vs, e, AV.kills_rep b l h⟩
  | .yl c T l, _, h => by
      simp only [AV.kill]; cases Nat.beq b c
      · exact ⟨h.1, AV.kills_rep b l h.2⟩
      · exact trivial
  | .tup l, _, ⟨vs, e, h⟩ => ⟨vs, e, AV.kills_rep b l h⟩
theorem AV.kills_rep (b : Nat) : ∀ (l : List AV) {vs : List Value}, AV.reps w ok β l vs → AV.reps w ok β (AV.kills b l) vs
  | [], _, h => h
  | a :: r, _, ⟨v, rest, e, h, hr⟩ => ⟨v, rest, e, AV.kill_rep b a h, AV.kills_rep b r hr⟩
end
end

/-! ### CPS and plain -/
theorem lkK_eq (t : Nat) (K : AV → Prop) : ∀ tm : TM, lkK t tm K = K (lkT t tm)
  | [] => rfl
  | (u, a) :: r => by simp only [lkK, lkT]; cases Nat.beq t u <;> simp [lkK_eq t K r]
theorem getK_eq (t : Nat) (K : ABlk → Prop) : ∀ mm : MM, getK t mm K = K (lkM t mm)
  | [] => rfl
  | (u, a) :: r => by simp only [getK, lkM]; cases Nat.beq t u <;> simp [getK_eq t K r]
theorem setK_eq (b : Nat) (x : ABlk) : ∀ (mm : MM) (K : MM → Prop), setK b x mm K = K (setM b x mm)
  | [], _ => rfl
  | (u, y) :: r, K => by simp only [setK, setM]; cases Nat.beq b u <;> simp [setK_eq b x r]
theorem dvsK_eq : ∀ (l : List Value) (K : List AV → Prop), dvsK l K = K (dvs l)
  | [], _ => rfl
  | x :: r, K => by simp only [dvsK, dvs, dvsK_eq r]
mutual
theorem AV.killK_eq (b : Nat) : ∀ (a : AV) (K : AV → Prop), AV.killK b a K = K (a.kill b)
  | .top, _ => rfl
  | .d _, _ => rfl
  | .ep _ _, _ => rfl
  | .full _, _ => rfl
  | .bp c j, K => by simp only [AV.killK, AV.kill]; cases Nat.beq b c <;> rfl
  | .rp c _ _ _, K => by simp only [AV.killK, AV.kill]; cases Nat.beq b c <;> rfl
  | .own c _, K => by simp only [AV.killK, AV.kill]; cases Nat.beq b c <;> rfl
  | .seg c _ _ _, K => by simp only [AV.killK, AV.kill]; cases Nat.beq b c <;> rfl
  | .agg l, K => by simp only [AV.killK, AV.kill, AV.killsK_eq b l]
  | .fn _ l, K => by simp only [AV.killK, AV.kill, AV.killsK_eq b l]
  | .clo _ _ l, K => by simp only [AV.killK, AV.kill, AV.killsK_eq b l]
  | .yl c T l, K => by simp only [AV.killK, AV.kill]; cases Nat.beq b c <;> simp [AV.killsK_eq b l]
  | .tup l, K => by simp only [AV.killK, AV.kill, AV.killsK_eq b l]
theorem AV.killsK_eq (b : Nat) : ∀ (l : List AV) (K : List AV → Prop), AV.killsK b l K = K (AV.kills b l)
  | [], _ => rfl
  | a :: r, K => by simp only [AV.killsK, AV.kills, AV.killK_eq b a, AV.killsK_eq b r]
end
theorem killT_eq (b : Nat) : ∀ (tm : TM) (K : TM → Prop), killT b tm K = K (killTM b tm)
  | [], _ => rfl
  | (t, a) :: r, K => by simp only [killT, killTM, AV.killK_eq, killT_eq b r]
theorem killM_eq (b : Nat) : ∀ (mm : MM) (K : MM → Prop), killM b mm K = K (killMM b mm)
  | [], _ => rfl
  | (t, .box cs) :: r, K => by simp only [killM, killMM, ABlk.kill, AV.killsK_eq, killM_eq b r]
  | (t, .gone) :: r, K => by simp only [killM, killMM, ABlk.kill, killM_eq b r]
  | (t, .row e x) :: r, K => by simp only [killM, killMM, ABlk.kill, killM_eq b r]
  | (t, .lp x) :: r, K => by simp only [killM, killMM, ABlk.kill, killM_eq b r]
theorem lkT_kill (b t : Nat) : ∀ tm : TM, lkT t (killTM b tm) = (lkT t tm).kill b
  | [] => rfl
  | (u, a) :: r => by simp only [killTM, lkT]; cases Nat.beq t u <;> simp [lkT_kill b t r]
theorem lkM_kill (b t : Nat) : ∀ mm : MM, lkM t (killMM b mm) = (lkM t mm).kill b
  | [] => rfl
  | (u, a) :: r => by simp only [killMM, lkM]; cases Nat.beq t u <;> simp [lkM_kill b t r]
theorem beq_ne {a b : Nat} (h : a ≠ b) : Nat.beq a b = false := by
  cases hb : Nat.beq a b
  · rfl
  · exact absurd (Nat.eq_of_beq_eq_true hb) h
theorem beq_self (a : Nat) : Nat.beq a a = true := by simp
theorem lkM_set (b : Nat) (x : ABlk) (t : Nat) : ∀ mm : MM, lkM t (setM b x mm) = if t = b then x else lkM t mm
  | [] => by
    simp only [setM, lkM]
    by_cases h : t = b
    · subst h; simp
    · simp [h, beq_ne h]
  | (u, y) :: r => by
    simp only [setM]
    cases hb : Nat.beq b u with
    | true =>
      have hb' : b = u := Nat.eq_of_beq_eq_true hb
      subst hb'
      simp only [cond_true, lkM]
      by_cases h : t = b
      · subst h; simp
      · simp [beq_ne h, h]
    | false =>
      have hb' : b ≠ u := Nat.ne_of_beq_eq_false hb
      simp only [cond_false, lkM, lkM_set b x t r]
      by_cases h : t = u
      · subst h; simp [Ne.symm hb']
      · simp [beq_ne h]
end Go.Proofs.YtgdcefohfebleaaDoor.V
/- The state: what slots and blocks of the call's own say of a frame and a world; how it goes on. -/
set_option linter.unusedVariables false
namespace Go.Proofs.YtgdcefohfebleaaDoor.V
open Go Go.RowKit

def ABlk.lives (e : Ent) : ABlk → Prop
  | .gone => False
  | .box _ => True
  | .row _ _ => e.nil = false
  | .lp _ => True
/-- The marks that loops over functions leave among the deferred calls: their blocks hold no call. -/
def Marks (n : Nat) (ds : List Deferred) (w : World) : Prop :=
  ∃ rs : List Nat, rs.Nodup ∧ ds = rs.map (fun r => { target := .collected r, args := #[] }) ∧ ∀ r ∈ rs, n ≤ r ∧ w.heap[r]? = some (.deferred (some []))
theorem Marks.mono {n : Nat} {ds : List Deferred} {w w' : World} (h : Marks n ds w) (hw : ∀ r : Nat, w.heap[r]? = some (Obj.deferred (some [])) → w'.heap[r]? = w.heap[r]?) : Marks n ds w' := by
  obtain ⟨rs, h1, h2, h3⟩ := h
  exact ⟨rs, h1, h2, fun r hr => ⟨(h3 r hr).1, by rw [hw r (h3 r hr).2]; exact (h3 r hr).2⟩⟩
theorem Marks.grown {n : Nat} {ds : List Deferred} {w w' : World} (h : Marks n ds w) (hw : ∀ b, b < w.heap.size → w'.heap[b]? = w.heap[b]?) : Marks n ds w' :=
  Marks.mono h fun r hr => hw r (Array.getElem?_eq_some_iff.1 hr).1
theorem Marks.nil (n : Nat) (w : World) : Marks n [] w := ⟨[], List.nodup_nil, rfl, fun r h => by cases h⟩
def live (mm : MM) (β : Nat → Ent) (k : Nat) : Prop := (lkM k mm).lives (β k)
def okB (W0 : World) (ok0 S0 : Nat → Prop) (mm : MM) (β : Nat → Ent) (w : World) (b : Nat) : Prop :=
  b < w.heap.size ∧ (W0.heap.size ≤ b ∨ ok0 b ∨ S0 b) ∧ ∀ k, live mm β k → (β k).blk ≠ b
structure Fr (W0 : World) (S0 : Nat → Prop) (w : World) : Prop where
  os : w.os = W0.os
  tape : w.tape = W0.tape
  output : w.output = W0.output
  size : W0.heap.size ≤ w.heap.size
  block : ∀ b, b < W0.heap.size → ¬ S0 b → w.heap[b]? = W0.heap[b]?
def BlkRep (w : World) (ok : Nat → Prop) (β : Nat → Ent) (k : Nat) : ABlk → Prop
  | .gone => True
  | .box cs => ∃ (vs : List Value) (e : TypeId), w.heap[(β k).blk]? = some (.cells vs.toArray e (0, 0)) ∧ AV.reps w ok β cs vs ∧ ∀ v ∈ vs, one v = true
  | .row e r => r.isSl = true ∧ (if (β k).nil = true then r.len = 0 else
      ∃ vs : List Value, w.heap[(β k).blk]? = some (.cells vs.toArray e (0, 0)) ∧ vs.length = (β k).cap * r.width ∧ r.len ≤ (β k).cap ∧
        ∀ i, i < r.len → ∀ j, j < r.width → ∃ u, vs[i * r.width + j]? = some u ∧ one u = true ∧ (r.cell i j).rep w ok u)
  | .lp r => w.heap[(β k).blk]? = some (.loop r)

structure SRep (cx : Cx) (W0 : World) (ok0 S0 : Nat → Prop) (β0 : Nat → Ent) (tm : TM) (mm : MM) (β : Nat → Ent) (a : Act) (w : World) : Prop where
  nt : a.tmps.size = cx.nt
  df : Marks W0.heap.size a.defers w
  tm : ∀ t, (lkT t tm).rep w (okB W0 ok0 S0 mm β w) β (a.tmps.getD t undef)
  me : ∀ k, BlkRep w (okB W0 ok0 S0 mm β w) β k (lkM k mm)
  inj : ∀ j k, live mm β j → live mm β k → (β j).blk = (β k).blk → j = k
  ow : ∀ k, live mm β k → (β k).blk < w.heap.size ∧ (W0.heap.size ≤ (β k).blk ∨ S0 (β k).blk)
  fr : Fr W0 S0 w
  fx : ∀ k, hk ≤ k → β k = β0 k

section
variable {cx : Cx} {W0 : World} {ok0 S0 : Nat → Prop} {β0 : Nat → Ent} {tm : TM} {mm : MM} {β : Nat → Ent} {a : Act} {w : World}

theorem getD_set (xs : Array Value) (d t : Nat) (v : Value) (hd : d < xs.size) : (xs.setIfInBounds d v).getD t undef = if t = d then v else xs.getD t undef := by
  simp only [Array.getD_eq_getD_getElem?, Array.getElem?_setIfInBounds]
  by_cases h : d = t
  · subst h; simp [hd]
  · simp [h, Ne.symm h]

theorem SRep.put (h : SRep cx W0 ok0 S0 β0 tm mm β a w) {d : Nat} {x : AV} {v : Value} (hd : d < cx.nt) (hx : x.rep w (okB W0 ok0 S0 mm β w) β v) :
    SRep cx W0 ok0 S0 β0 ((d, x) :: tm) mm β (a.put (some d) v) w where
  nt := by simpa [Act.put] using h.nt
  df := h.df
  tm := fun t => by
    simp only [Act.put, getD_set _ _ _ _ (by rw [h.nt]; exact hd), lkT]
    by_cases ht : t = d
    · subst ht; simpa using hx
    · simpa [beq_ne ht, ht] using h.tm t
  me := h.me
  inj := h.inj
  ow := h.ow
  fr := h.fr
  fx := h.fx
/-- The slot keeps its value; it is told otherwise. -/
theorem SRep.retell (h : SRep cx W0 ok0 S0 β0 tm mm β a w) {tm' : TM} (hx : ∀ t, (lkT t tm').rep w (okB W0 ok0 S0 mm β w) β (a.tmps.getD t undef)) :
    SRep cx W0 ok0 S0 β0 tm' mm β a w := ⟨h.nt, h.df, hx, h.me, h.inj, h.ow, h.fr, h.fx⟩
theorem live_kill (b k : Nat) : live (killMM b mm) β k ↔ live mm β k := by
  unfold live
  rw [lkM_kill]
  cases lkM k mm <;> simp [ABlk.kill, ABlk.lives]
theorem okB_kill (b c : Nat) : okB W0 ok0 S0 (killMM b mm) β w c ↔ okB W0 ok0 S0 mm β w c := by
  simp only [okB, live_kill]
theorem SRep.kill (h : SRep cx W0 ok0 S0 β0 tm mm β a w) (b : Nat) : SRep cx W0 ok0 S0 β0 (killTM b tm) (killMM b mm) β a w where
  nt := h.nt
  df := h.df
  tm := fun t => by
    rw [lkT_kill]
    exact AV.rep_mono (fun _ _ => rfl) (fun c hc => (okB_kill b c).2 hc) _ (fun _ _ => rfl) (AV.kill_rep b _ (h.tm t))
  me := fun k => by
    have := h.me k
    rw [lkM_kill]
    cases hk : lkM k mm with
    | gone => trivial
    | box cs =>
      rw [hk] at this
      obtain ⟨vs, e, hh, hr, ho⟩ := this
      exact ⟨vs, e, hh, AV.reps_mono (fun _ _ => rfl) (fun c hc => (okB_kill b c).2 hc) _ (fun _ _ => rfl) (AV.kills_rep b _ hr), ho⟩
    | lp r => rw [hk] at this; exact this
    | row e r =>
      rw [hk] at this
      simp only [ABlk.kill, BlkRep] at this ⊢
      refine ⟨this.1, ?_⟩
      split
      · rename_i hn; have h2 := this.2; rw [if_pos hn] at h2; exact h2
      · rename_i hn
        have h2 := this.2; rw [if_neg hn] at h2
        obtain ⟨vs, h1, h2, h3, h4⟩ := h2
        refine ⟨vs, h1, h2, h3, fun i hi j hj => ?_⟩
        obtain ⟨u, hu, h1u, hr⟩ := h4 i hi j hj
        exact ⟨u, hu, h1u, DV.rep_mono (fun _ _ => rfl) (fun c hc => (okB_kill b c).2 hc) _ hr⟩
  inj := fun j k hj hk => h.inj j k ((live_kill b j).1 hj) ((live_kill b k).1 hk)
  ow := fun k hk => h.ow k ((live_kill b k).1 hk)
  fr := h.fr
  fx := h.fx

/-- What a block says goes on where the blocks that are only read stay, and its own. -/
theorem BlkRep.mono {w' : World} {ok ok' : Nat → Prop} {β' : Nat → Ent} {k : Nat} (x : ABlk) (h : BlkRep w ok β k x)
    (hw : ∀ b, ok b → w'.heap[b]? = w.heap[b]?) (ho : ∀ b, ok b → ok' b) (hk : β' k = β k) (hb : x.lives (β k) → w'.heap[(β k).blk]? = w.heap[(β k).blk]?)
    (hr : ∀ cs, x = .box cs → ∀ c, AV.refsL c cs → β' c = β c) : BlkRep w' ok' β' k x := by
  cases x with
  | gone => trivial
  | lp r => show w'.heap[(β' k).blk]? = some (.loop r); rw [hk, hb trivial]; exact h
  | box cs =>
    obtain ⟨vs, e, hh, hc, h1⟩ := h
    exact ⟨vs, e, by rw [hk, hb trivial]; exact hh, AV.reps_mono hw ho _ (hr cs rfl) hc, h1⟩
  | row e r =>
    simp only [BlkRep] at h ⊢
    rw [hk]
    refine ⟨h.1, ?_⟩
    have h2 := h.2
    split
    · rename_i hn; rw [if_pos hn] at h2; exact h2
    · rename_i hn
      rw [if_neg hn] at h2
      obtain ⟨vs, h1, h2, h3, h4⟩ := h2
      refine ⟨vs, by rw [hb (show ABlk.lives _ (.row e r) from by simpa [ABlk.lives] using hn)]; exact h1, h2, h3, fun i hi j hj => ?_⟩
      obtain ⟨u, hu, h1u, hr⟩ := h4 i hi j hj
      exact ⟨u, hu, h1u, DV.rep_mono hw ho _ hr⟩

/-- A live block holds no deferred calls. -/
theorem SRep.no_mark (h : SRep cx W0 ok0 S0 β0 tm mm β a w) {d : Nat} (hd : live mm β d) {l : Option (List Deferred)} (e : w.heap[(β d).blk]? = some (.deferred l)) : False := by
  have hm := h.me d
  unfold live at hd
  cases hq : lkM d mm with
  | gone => rw [hq] at hd; exact hd
  | lp r => rw [hq] at hm; have hm : w.heap[(β d).blk]? = some (.loop r) := hm; rw [e] at hm; cases hm
  | box cs => rw [hq] at hm; obtain ⟨vs, t, hm, _⟩ := hm; rw [e] at hm; cases hm
  | row t r =>
    rw [hq] at hm hd
    have hn : (β d).nil = false := hd
    obtain ⟨_, hm⟩ := hm
    rw [hn, if_neg (by simp)] at hm
    obtain ⟨vs, hm, _⟩ := hm
    rw [e] at hm; cases hm
/-- The world goes on, the blocks told are as they were (a call that only makes; a draw). -/
theorem SRep.below (h : SRep cx W0 ok0 S0 β0 tm mm β a w) {w' : World} (hb : Below w.heap.size w w') : SRep cx W0 ok0 S0 β0 tm mm β a w' := by
  have hok : ∀ b, okB W0 ok0 S0 mm β w b → okB W0 ok0 S0 mm β w' b := fun b hb' => ⟨Nat.lt_of_lt_of_le hb'.1 hb.size, hb'.2.1, hb'.2.2⟩
  have hw : ∀ b, okB W0 ok0 S0 mm β w b → w'.heap[b]? = w.heap[b]? := fun b hb' => hb.block b hb'.1
  exact {
    nt := h.nt
    df := Marks.grown h.df hb.block
    tm := fun t => AV.rep_mono hw hok _ (fun _ _ => rfl) (h.tm t)
    me := fun k => BlkRep.mono _ (h.me k) hw hok rfl (fun hl => hb.block _ (h.ow k hl).1) (fun _ _ _ _ => rfl)
    inj := h.inj
    ow := fun k hk => ⟨Nat.lt_of_lt_of_le (h.ow k hk).1 hb.size, (h.ow k hk).2⟩
    fr := ⟨hb.os.trans h.fr.os, hb.tape.trans h.fr.tape, hb.output.trans h.fr.output, Nat.le_trans h.fr.size hb.size, fun b hb' hs =>
      (hb.block b (Nat.lt_of_lt_of_le hb' h.fr.size)).trans (h.fr.block b hb' hs)⟩
    fx := h.fx }

/-- No slot and no box leads to key d. -/
def noRef (d : Nat) (tm : TM) (mm : MM) : Prop := (∀ t c, (lkT t tm).refs c → c ≠ d) ∧ ∀ k cs, lkM k mm = .box cs → ∀ c, AV.refsL c cs → c ≠ d
theorem noRef_kill (d : Nat) (tm : TM) (mm : MM) : noRef d (killTM d tm) (killMM d mm) := by
  refine ⟨fun t c h => ?_, fun k cs hk c h => ?_⟩
  · rw [lkT_kill] at h; exact AV.kill_refs d _ c h
  · rw [lkM_kill] at hk
    cases hx : lkM k mm with
    | gone => rw [hx] at hk; cases hk
    | row e r => rw [hx] at hk; cases hk
    | lp r => rw [hx] at hk; cases hk
    | box ds => rw [hx] at hk; simp only [ABlk.kill, ABlk.box.injEq] at hk; subst hk; exact AV.kills_refs d _ c h

theorem live_cons {d k : Nat} {x : ABlk} {β' : Nat → Ent} (hk : k ≠ d) (hb : β' k = β k) : live ((d, x) :: mm) β' k ↔ live mm β k := by
  unfold live
  simp only [lkM, beq_ne hk, cond_false, hb]
theorem lkM_cons {d k : Nat} {x : ABlk} : lkM k ((d, x) :: mm) = if k = d then x else lkM k mm := by
  simp only [lkM]
  by_cases h : k = d
  · subst h; simp
  · simp [beq_ne h, h]

/-- A new block under key d, to which nothing leads yet. -/
theorem SRep.new (h : SRep cx W0 ok0 S0 β0 tm mm β a w) {d : Nat} (hdk : d < hk) (hd : noRef d tm mm) (x : ABlk) (o : Obj) (cap : Nat) (w' : World) (hw' : w' = w.alloc o)
    (hx : ∀ (ok' : Nat → Prop) (β' : Nat → Ent), (∀ b, okB W0 ok0 S0 mm β w b → ok' b) → β' d = ⟨w.heap.size, cap, false⟩ → (∀ k, k ≠ d → β' k = β k) → BlkRep w' ok' β' d x) (hl : x ≠ .gone) :
    ∃ β', β' d = ⟨w.heap.size, cap, false⟩ ∧ (∀ k, k ≠ d → β' k = β k) ∧ (∀ b, okB W0 ok0 S0 mm β w b → okB W0 ok0 S0 ((d, x) :: mm) β' w' b) ∧ SRep cx W0 ok0 S0 β0 tm ((d, x) :: mm) β' a w' := by
  subst hw'
  let β' : Nat → Ent := fun k => if k = d then ⟨w.heap.size, cap, false⟩ else β k
  have hβd : β' d = ⟨w.heap.size, cap, false⟩ := by simp [β']
  have hβk : ∀ k, k ≠ d → β' k = β k := fun k hk => by simp [β', hk]
  have hlv : ∀ k, live ((d, x) :: mm) β' k → k ≠ d → live mm β k := fun k hk hne => (live_cons hne (hβk k hne)).1 hk
  have hok : ∀ b, okB W0 ok0 S0 mm β w b → okB W0 ok0 S0 ((d, x) :: mm) β' (w.alloc o) b := by
    intro b hb
    refine ⟨by have := hb.1; simp; omega, hb.2.1, fun k hk => ?_⟩
    by_cases hkd : k = d
    · subst hkd; rw [hβd]; exact fun e => by have := hb.1; simp at e; omega
    · rw [hβk k hkd]; exact hb.2.2 k (hlv k hk hkd)
  have hw : ∀ b, okB W0 ok0 S0 mm β w b → (w.alloc o).heap[b]? = w.heap[b]? := fun b hb => Below.heap_alloc w o b hb.1
  refine ⟨β', hβd, hβk, hok, ?_⟩
  exact {
    nt := h.nt
    df := Marks.grown h.df (fun b hb => Below.heap_alloc w o b hb)
    tm := fun t => AV.rep_mono hw hok _ (fun c hc => hβk c (hd.1 t c hc)) (h.tm t)
    me := fun k => by
      rw [lkM_cons]
      split
      · rename_i hk; subst hk; exact hx _ _ hok hβd hβk
      · rename_i hk
        exact BlkRep.mono _ (h.me k) hw hok (hβk k hk) (fun hl => Below.heap_alloc w o _ (h.ow k hl).1) (fun cs hcs c hc => hβk c (hd.2 k cs hcs c hc))
    inj := fun j k hj hk e => by
      by_cases hjd : j = d <;> by_cases hkd : k = d
      · rw [hjd, hkd]
      · subst hjd; rw [hβd, hβk k hkd] at e; have := (h.ow k (hlv k hk hkd)).1; simp at e; omega
      · subst hkd; rw [hβd, hβk j hjd] at e; have := (h.ow j (hlv j hj hjd)).1; simp at e; omega
      · rw [hβk j hjd, hβk k hkd] at e; exact h.inj j k (hlv j hj hjd) (hlv k hk hkd) e
    ow := fun k hk => by
      by_cases hkd : k = d
      · subst hkd; rw [hβd]; exact ⟨by simp, .inl h.fr.size⟩
      · rw [hβk k hkd]; obtain ⟨h1, h2⟩ := h.ow k (hlv k hk hkd); exact ⟨by simp; omega, h2⟩
    fr := ⟨h.fr.os, h.fr.tape, h.fr.output, by have := h.fr.size; simp; omega, fun b hb hs => (Below.heap_alloc w o b (Nat.lt_of_lt_of_le hb h.fr.size)).trans (h.fr.block b hb hs)⟩
    fx := fun k hk' => (hβk k (by omega)).trans (h.fx k hk') }

theorem live_set {d k : Nat} {x : ABlk} : live (setM d x mm) β k ↔ if k = d then x.lives (β k) else live mm β k := by
  unfold live
  rw [lkM_set]
  split <;> simp
/-- A block of the call's own is written: its number stays. -/
theorem SRep.write (h : SRep cx W0 ok0 S0 β0 tm mm β a w) {d : Nat} (hd : live mm β d) (x : ABlk) (w' : World)
    (hos : w'.os = w.os) (htp : w'.tape = w.tape) (hout : w'.output = w.output) (hsz : w'.heap.size = w.heap.size) (hoth : ∀ b, b ≠ (β d).blk → w'.heap[b]? = w.heap[b]?)
    (hl : live (setM d x mm) β d) (hx : ∀ ok', (∀ b, okB W0 ok0 S0 mm β w b → ok' b) → BlkRep w' ok' β d x) :
    SRep cx W0 ok0 S0 β0 tm (setM d x mm) β a w' := by
  have hlv : ∀ k, live (setM d x mm) β k → live mm β k := fun k hk => by
    by_cases hkd : k = d
    · subst hkd; exact hd
    · rw [live_set, if_neg hkd] at hk; exact hk
  have hlv' : ∀ k, live mm β k → live (setM d x mm) β k := fun k hk => by
    by_cases hkd : k = d
    · subst hkd; exact hl
    · rw [live_set, if_neg hkd]; exact hk
  have hok : ∀ b, okB W0 ok0 S0 mm β w b → okB W0 ok0 S0 (setM d x mm) β w' b := fun b hb => ⟨by rw [hsz]; exact hb.1, hb.2.1, fun k hk => hb.2.2 k (hlv k hk)⟩
  have hw : ∀ b, okB W0 ok0 S0 mm β w b → w'.heap[b]? = w.heap[b]? := fun b hb => hoth b (fun e => hb.2.2 d hd e.symm)
  exact {
    nt := h.nt
    df := Marks.mono h.df (fun r hr => hoth r (fun e => h.no_mark hd (e ▸ hr)))
    tm := fun t => AV.rep_mono hw hok _ (fun _ _ => rfl) (h.tm t)
    me := fun k => by
      rw [lkM_set]
      split
      · rename_i hk; subst hk; exact hx _ hok
      · rename_i hk
        exact BlkRep.mono _ (h.me k) hw hok rfl (fun hl' => hoth _ (fun e => hk (h.inj k d hl' hd e))) (fun _ _ _ _ => rfl)
    inj := fun j k hj hk => h.inj j k (hlv j hj) (hlv k hk)
    ow := fun k hk => by rw [hsz]; exact h.ow k (hlv k hk)
    fr := ⟨hos.trans h.fr.os, htp.trans h.fr.tape, hout.trans h.fr.output, by rw [hsz]; exact h.fr.size, fun b hb hs => by
      rw [hoth b (fun e => ?_)]
      · exact h.fr.block b hb hs
      · rcases (h.ow d hd).2 with h1 | h1
        · omega
        · rw [e] at hs; exact hs h1⟩
    fx := h.fx }

/-- A block of deferred calls turns; no other. -/
theorem SRep.close (h : SRep cx W0 ok0 S0 β0 tm mm β a w) (ha : a.defers = []) {r : Nat} (hr : W0.heap.size ≤ r) {l : Option (List Deferred)} (e : w.heap[r]? = some (.deferred l)) (w' : World)
    (hos : w'.os = w.os) (htp : w'.tape = w.tape) (hout : w'.output = w.output) (hsz : w'.heap.size = w.heap.size) (hoth : ∀ b, b ≠ r → w'.heap[b]? = w.heap[b]?) : SRep cx W0 ok0 S0 β0 tm mm β a w' := by
  have hc : ∀ (ad : Addr) u, w.cell? ad = some u → w'.cell? ad = some u := fun ad u hu => by
    by_cases hb : ad.block = r
    · subst hb; simp [World.cell?, e] at hu
    · rw [World.cell?_of_block (w := w) (hoth _ hb)]; exact hu
  have hok : ∀ b, okB W0 ok0 S0 mm β w b → okB W0 ok0 S0 mm β w' b := fun b hb => ⟨by rw [hsz]; exact hb.1, hb.2.1, hb.2.2⟩
  have hlive : ∀ {b : Nat} {o : Obj}, w.heap[b]? = some o → (∀ l, o ≠ .deferred l) → w'.heap[b]? = some o := fun {b o} hb ho => by
    rw [hoth b (fun q => by rw [q, e] at hb; cases hb; exact ho _ rfl)]; exact hb
  exact {
    nt := h.nt
    df := by rw [ha]; exact Marks.nil _ _
    tm := fun t => AV.rep_cell hc hok _ (h.tm t)
    me := fun k => by
      have hm := h.me k
      cases hq : lkM k mm with
      | gone => trivial
      | lp r' => rw [hq] at hm; exact hlive hm (fun l q => by cases q)
      | box cs => rw [hq] at hm; obtain ⟨vs, t, h1, h2, h3⟩ := hm; exact ⟨vs, t, hlive h1 (fun l q => by cases q), AV.reps_cell hc hok _ h2, h3⟩
      | row t x =>
        rw [hq] at hm
        refine ⟨hm.1, ?_⟩
        have h2 := hm.2
        split
        · rename_i hn; rw [if_pos hn] at h2; exact h2
        · rename_i hn
          rw [if_neg hn] at h2
          obtain ⟨vs, h1, h2, h3, h4⟩ := h2
          refine ⟨vs, hlive h1 (fun l q => by cases q), h2, h3, fun i hi j hj => ?_⟩
          obtain ⟨u, hu, h1u, hrep⟩ := h4 i hi j hj
          exact ⟨u, hu, h1u, DV.rep_cell hc hok _ hrep⟩
    inj := h.inj
    ow := fun k hk => by rw [hsz]; exact h.ow k hk
    fr := ⟨hos.trans h.fr.os, htp.trans h.fr.tape, hout.trans h.fr.output, by rw [hsz]; exact h.fr.size, fun b hb hs => (hoth b (by omega)).trans (h.fr.block b hb hs)⟩
    fx := h.fx }
end
end Go.Proofs.YtgdcefohfebleaaDoor.V
/- Types, operands, and what operations yield that leave the world as it is. -/
set_option linter.unusedVariables false
set_option linter.unusedSimpArgs false
namespace Go.Proofs.YtgdcefohfebleaaDoor.V
open Go Go.RowKit

def aggB (P : Program) (t : TypeId) : Bool :=
  match P.underlying t with
  | some (.struct _) | some (.array _ _) => true
  | _ => false
structure TIok (P : Program) (t : TypeId) (ti : TI) : Prop where
  info : ∃ i z, P.info? t = some i ∧ i.size = ti.cells ∧ i.bytes = ti.bytes ∧ i.zero = some z ∧ z.cells = ti.zero.toArray
  len : ti.zero.length = ti.cells
  ones : ∀ v ∈ ti.zero, one v = true
  und : (P.underlying t).isSome = true
  agg : aggB P t = ti.agg
  str : ti.kind = 1 → ∃ fs : Array Field, P.underlying t = some (.struct fs) ∧ ∀ (j off size : Nat) (ag : Bool), ti.offs[j]? = some (off, size, ag) → ∃ f : Field, fs[j]? = some f ∧ f.offset = off ∧ (∃ i, P.info? f.type = some i ∧ i.size = size) ∧ (P.underlying f.type).isSome = true ∧ aggB P f.type = ag
  strl : ti.kind = 1 → ∀ fs : Array Field, P.underlying t = some (.struct fs) → ti.offs = fs.toList.map (fun f : Field => (f.offset, P.cellsOf f.type, aggB P f.type)) ∧ ∀ f : Field, f ∈ fs → (P.info? f.type).isSome = true
  arr : ti.kind = 2 → ∀ (len size : Nat) (ag : Bool), ti.offs = [(len, size, ag)] → P.underlying t = some (.array len ti.elem) ∧ (∃ i, P.info? ti.elem = some i ∧ i.size = size) ∧ (P.underlying ti.elem).isSome = true ∧ aggB P ti.elem = ag
  sl : ti.kind = 3 → P.underlying t = some (.slice ti.elem)
  st : ti.kind = 4 → P.underlying t = some .string
  bo : ti.kind = 5 → P.underlying t = some .bool
  it : ti.kind = 6 → ∃ k z, P.underlying t = some (.int k) ∧ ti.zero = [.int k z]

section
variable {P : Program} {w : World}
theorem run_size {t : TypeId} {i : TypeInfo} (h : P.info? t = some i) : (sizeOf t).run P w = .ok i.size w := by simp [sizeOf, typeInfo, h]
theorem TIok.size {t : TypeId} {ti : TI} (h : TIok P t ti) : (sizeOf t).run P w = .ok ti.cells w := by
  obtain ⟨i, z, hi, h1, _⟩ := h.info
  rw [run_size hi, h1]
theorem TIok.zv {t : TypeId} {ti : TI} (h : TIok P t ti) : ∃ z, (zeroValue t).run P w = .ok z w ∧ z.cells = ti.zero.toArray := by
  obtain ⟨i, z, hi, _, _, h3, h4⟩ := h.info
  exact ⟨z, by simp [zeroValue, typeInfo, hi, h3], h4⟩
theorem run_isAgg {t : TypeId} (h : (P.underlying t).isSome = true) : (isAgg t).run P w = .ok (aggB P t) w := by
  obtain ⟨d, hd⟩ := Option.isSome_iff_exists.1 h
  unfold isAgg aggB
  simp only [Sem.run_bind, run_underlying hd, Result.andThen_ok, hd]
  cases d <;> simp
theorem TIok.isAgg {t : TypeId} {ti : TI} (h : TIok P t ti) : (isAgg t).run P w = .ok ti.agg w := by rw [run_isAgg h.und, h.agg]

/-- A value of a type with one cell, or an aggregate, out of cells. -/
theorem run_loadVar_of {t : TypeId} {ti : TI} (h : TIok P t ti) (ad : Addr) (cs : List Value) (hl : cs.length = ti.cells) (hc : ∀ j v, cs[j]? = some v → w.cell? (ad.add j) = some v) (h1 : ti.agg = true ∨ ti.cells = 1) :
    (loadVar t ad).run P w = .ok (if ti.agg = true then .agg cs.toArray else cs.getD 0 undef) w := by
  unfold loadVar
  simp only [Sem.run_bind, h.isAgg, Result.andThen_ok]
  cases ha : ti.agg with
  | true =>
    simp only [if_true, Sem.run_bind, h.size, Result.andThen_ok, ← hl, run_loadCells_list w ad cs hc, Sem.run_pure]
  | false =>
    rcases h1 with h1 | h1
    · rw [ha] at h1; cases h1
    · match cs, (by omega : cs.length = 1) with
      | [c], _ =>
        have := hc 0 c rfl
        have e : ad.add 0 = ad := rfl
        rw [e] at this
        simp [load, Sem.run, this]

/-- Two lists of cells of the kinds of a type's zero value. -/
def kinds : List Value → List Value → Prop
  | [], [] => True
  | .int k _ :: z, .int k' _ :: r => k' = k ∧ kinds z r
  | .bool _ :: z, .bool _ :: r => kinds z r
  | .string _ :: z, .string _ :: r => kinds z r
  | _, _ => False
def eqv : List Value → List Value → Bool
  | .int _ x :: r, .int _ y :: s => decide (x = y) && eqv r s
  | .bool x :: r, .bool y :: s => decide (x = y) && eqv r s
  | .string x :: r, .string y :: s => decide (x = y) && eqv r s
  | _, _ => true
structure EqAgg (P : Program) (t : TypeId) (zero : List Value) : Prop where
  gd : P.eqGuardType P.depth t = false
  run : ∀ (w : World) (xs ys : List Value), kinds zero xs → kinds zero ys → (Op.equal t (.agg xs.toArray) (.agg ys.toArray)).run P w = .ok (eqv xs ys) w
structure Cok (P : Program) (cx : Cx) (W0 : World) (ok0 S0 : Nat → Prop) : Prop where
  tb : ∀ t ti, cx.tb t = some ti → TIok P t ti
  eqa : ∀ t ti, cx.eqt t = true → cx.tb t = some ti → EqAgg P t ti.zero
  gl : ∀ g m f, cx.gl g = some (m, f) → g < W0.heap.size ∧ ok0 g ∧ ¬ S0 g ∧ ∀ j, j < m → ∃ x, f j = .v x ∧ one x = true ∧ W0.cell? ((⟨g, 0, none⟩ : Addr).add j) = some x
end

section
variable {P : Program} {cx : Cx} {W0 : World} {ok0 S0 : Nat → Prop} {β0 : Nat → Ent} {tm : TM} {mm : MM} {β : Nat → Ent} {a : Act} {w : World}

theorem onesB_ok : ∀ l : List Value, onesB l = true → ∀ v ∈ l, one v = true
  | [], _, v, h => by simp at h
  | x :: r, h, v, hv => by
    have h2 : onesB r = true ∧ one x = true := by cases x <;> first | exact ⟨h, rfl⟩ | (simp [onesB] at h; done)
    rcases List.mem_cons.1 hv with rfl | hv
    · exact h2.2
    · exact onesB_ok r h2.1 v hv
theorem reps_dvs {ok : Nat → Prop} : ∀ l : List Value, AV.reps w ok β (dvs l) l
  | [] => rfl
  | x :: r => ⟨x, r, rfl, rfl, reps_dvs r⟩
theorem reps_len {ok : Nat → Prop} : ∀ (l : List AV) {vs : List Value}, AV.reps w ok β l vs → vs.length = l.length
  | [], _, h => by rw [show _ = [] from h]; rfl
  | x :: r, _, ⟨v, rest, e, _, h⟩ => by rw [e]; simp [reps_len r h]
theorem reps_get {ok : Nat → Prop} : ∀ (l : List AV) {vs : List Value}, AV.reps w ok β l vs → ∀ (j : Nat) (x : AV), l[j]? = some x → ∃ v, vs[j]? = some v ∧ x.rep w ok β v
  | [], _, _, j, x, h => by simp at h
  | y :: r, _, ⟨v, rest, e, hy, h⟩, 0, x, hx => by obtain rfl : y = x := by simpa using hx
                                                   exact ⟨v, by rw [e]; rfl, hy⟩
  | y :: r, _, ⟨v, rest, e, hy, h⟩, j + 1, x, hx => by
    obtain ⟨u, hu, hr⟩ := reps_get r h j x (by simpa using hx)
    exact ⟨u, by rw [e]; simpa using hu, hr⟩

theorem SRep.glob (h : SRep cx W0 ok0 S0 β0 tm mm β a w) (hc : Cok P cx W0 ok0 S0) {g m : Nat} {f : Nat → DV} (hg : cx.gl g = some (m, f)) :
    (AV.ep m f).rep w (okB W0 ok0 S0 mm β w) β (.pointer (some ⟨g, 0, none⟩)) := by
  obtain ⟨h1, h2, h3, h4⟩ := hc.gl g m f hg
  refine ⟨⟨g, 0, none⟩, rfl, fun _ => ⟨Nat.lt_of_lt_of_le h1 h.fr.size, .inr (.inl h2), fun k hk e => ?_⟩, fun j hj => ?_⟩
  · rcases (h.ow k hk).2 with h5 | h5
    · rw [e] at h5; exact absurd h1 (Nat.not_lt.2 h5)
    · rw [e] at h5; exact h3 h5
  · obtain ⟨x, e1, e3, e2⟩ := h4 j hj
    refine ⟨x, ?_, e3, by rw [e1]; rfl⟩
    rw [World.cell?_of_block (w := W0) (by rw [show ((⟨g, 0, none⟩ : Addr).add j).block = g from by unfold Addr.add; split <;> rfl]; exact h.fr.block g h1 h3)]
    exact e2

theorem evK_ok (h : SRep cx W0 ok0 S0 β0 tm mm β a w) (hc : Cok P cx W0 ok0 S0) (o : Operand) (K : AV → Prop) (hk : evK cx o tm K) :
    ∃ x : AV, x.rep w (okB W0 ok0 S0 mm β w) β (a.eval o) ∧ K x := by
  cases o with
  | tmp t => rw [evK, lkK_eq] at hk; exact ⟨_, h.tm t, hk⟩
  | const x =>
    simp only [evK, constK] at hk
    split at hk
    · rename_i cs
      cases hb : onesB cs.toList with
      | false => simp only [hb, cond_false] at hk
      | true =>
        simp only [hb, cond_true] at hk
        rw [dvsK_eq] at hk; exact ⟨.agg (dvs cs.toList), ⟨cs.toList, rfl, onesB_ok _ hb, reps_dvs _⟩, hk⟩
    · exact hk.elim
    · exact ⟨.d (.v x), rfl, hk⟩
  | func f => exact ⟨.fn f [], ⟨[], rfl, rfl⟩, hk⟩
  | global g =>
    simp only [evK] at hk
    split at hk
    · rename_i m f hg; exact ⟨_, h.glob hc hg, hk⟩
    · exact hk.elim
theorem evsK_ok (h : SRep cx W0 ok0 S0 β0 tm mm β a w) (hc : Cok P cx W0 ok0 S0) : ∀ (l : List Operand) (K : List AV → Prop), evsK cx tm l K →
    ∃ x : List AV, AV.reps w (okB W0 ok0 S0 mm β w) β x (l.map a.eval) ∧ K x
  | [], K, hk => ⟨[], rfl, hk⟩
  | o :: r, K, hk => by
    obtain ⟨x, hx, hk⟩ := evK_ok h hc o _ hk
    obtain ⟨l, hl, hk⟩ := evsK_ok h hc r _ hk
    exact ⟨x :: l, ⟨_, _, rfl, hx, hl⟩, hk⟩
theorem intK_ok {x : AV} {K : IntKind → Int → Prop} (h : intK x K) : ∃ k n, x = .d (.v (.int k n)) ∧ K k n := by
  unfold intK at h
  split at h
  · exact ⟨_, _, rfl, h⟩
  · exact h.elim
theorem boolK_ok {x : AV} {K : Bool → Prop} (h : boolK x K) : ∃ b, x = .d (.v (.bool b)) ∧ K b := by
  unfold boolK at h
  split at h
  · exact ⟨_, rfl, h⟩
  · exact h.elim
theorem brK_ok {b : Bool} {A B : Prop} (h : brK b A B) : (b = true ∧ A) ∨ (b = false ∧ B) := brK_ok' h

/-- What one operation must come to, whether in a function's own frame or in a round's: a value; a call of a function; a round of a loop over a function. -/
def upW (P : Program) (o : Oper) (a : Act) (next : Act → World → Prop) : Result Next → Prop
  | .ok (.value v) w' => next (a.put o.dst v) w'
  | .ok .skip w' => next (a.put o.dst undef) w'
  | .ok (.enter f args) w' => Calls P f args w' fun e w'' => match e with
      | .returned v => next (a.put o.dst v) w''
      | _ => False
  | .ok (.round l f tmps assign body) w' => RoundIn Fence.wide 0 P l f tmps assign body w' fun e w'' => match e with
      | .returned v => next (a.put o.dst v) w''
      | _ => False
  | _ => False
def OpW (P : Program) (o : Oper) (a : Act) (w : World) (next : Act → World → Prop) : Prop := upW P o a next ((execOp a.eval o).run P w)
theorem OpW.mono {P : Program} {o : Oper} {a : Act} {w : World} {K K' : Act → World → Prop} (h : ∀ a w, K a w → K' a w) (hh : OpW P o a w K) : OpW P o a w K' := by
  unfold OpW at *
  generalize (execOp a.eval o).run P w = r at *
  cases r with
  | halt x w' => exact hh.elim
  | ok x w' =>
    cases x with
    | value v => exact h _ _ hh
    | skip => exact h _ _ hh
    | enter f args => exact Calls.mono hh fun e w'' he => by cases e <;> first | exact h _ _ he | exact he.elim
    | round l f tmps assign body => exact RoundIn.mono hh fun e w'' he => by cases e <;> first | exact h _ _ he | exact he.elim
    | _ => exact hh.elim
/-- What an operation must come to. -/
def Goes (P : Program) (cx : Cx) (W0 : World) (ok0 S0 : Nat → Prop) (β0 : Nat → Ent) (o : Oper) (a : Act) (w : World) (Q : Exit → Act → World → Prop) (K : TM → MM → Prop) : Prop :=
  OpW P o a w (fun a' w' => ∃ tm' mm' β', SRep cx W0 ok0 S0 β0 tm' mm' β' a' w' ∧ K tm' mm')
theorem goes_val {o : Oper} {Q : Exit → Act → World → Prop} {K : TM → MM → Prop} {v : Value} {w' : World} (hr : (execOp a.eval o).run P w = .ok (.value v) w')
    (h : ∃ tm' mm' β', SRep cx W0 ok0 S0 β0 tm' mm' β' (a.put o.dst v) w' ∧ K tm' mm') : Goes P cx W0 ok0 S0 β0 o a w Q K := by
  unfold Goes OpW
  rw [hr]
  exact h
theorem putK_ok (h : SRep cx W0 ok0 S0 β0 tm mm β a w) {t : Option Nat} {x : AV} {v : Value} {K : TM → Prop} (hk : putK cx t x tm K) (hx : x.rep w (okB W0 ok0 S0 mm β w) β v) :
    ∃ tm', SRep cx W0 ok0 S0 β0 tm' mm β (a.put t v) w ∧ K tm' := by
  cases t with
  | none => exact ⟨tm, h, hk⟩
  | some t =>
    simp only [putK] at hk
    cases hb : Nat.blt t cx.nt with
    | false => rw [hb] at hk; exact hk.elim
    | true => rw [hb] at hk; exact ⟨_, h.put (by simpa [Nat.blt_eq] using hb) hx, hk⟩
/-- A value, the world as it was; the same value in a world that has gone on. -/
def GoesP (P : Program) (cx : Cx) (W0 : World) (ok0 S0 : Nat → Prop) (β0 : Nat → Ent) (o : Oper) (a : Act) (w : World) (mm : MM) (β : Nat → Ent) (K : TM → MM → Prop) : Prop :=
  ∃ v, (∀ w2, (loadB o = true → Below w.heap.size w w2) → (execOp a.eval o).run P w2 = .ok (.value v) w2) ∧ ∃ tm', SRep cx W0 ok0 S0 β0 tm' mm β (a.put o.dst v) w ∧ K tm' mm
/-- What an operation must come to; calm: the world only grows. -/
def GoesC (P : Program) (cx : Cx) (W0 : World) (ok0 S0 : Nat → Prop) (β0 : Nat → Ent) (o : Oper) (a : Act) (w : World) (calm : Bool) (Q : Exit → Act → World → Prop) (K : TM → MM → Prop) : Prop :=
  OpW P o a w (fun a' w' => (calm = true → Below w.heap.size w w') ∧ ∃ tm' mm' β', SRep cx W0 ok0 S0 β0 tm' mm' β' a' w' ∧ K tm' mm')
theorem goesC_val {o : Oper} {calm : Bool} {Q : Exit → Act → World → Prop} {K : TM → MM → Prop} {v : Value} {w' : World} (hr : (execOp a.eval o).run P w = .ok (.value v) w') (hb : calm = true → Below w.heap.size w w')
    (h : ∃ tm' mm' β', SRep cx W0 ok0 S0 β0 tm' mm' β' (a.put o.dst v) w' ∧ K tm' mm') : GoesC P cx W0 ok0 S0 β0 o a w calm Q K := by
  unfold GoesC OpW
  rw [hr]
  exact ⟨hb, h⟩
theorem below_alloc (w : World) (o : Obj) : Below w.heap.size w (w.alloc o) := ⟨rfl, rfl, rfl, by simp, fun b hb => Below.heap_alloc w o b hb⟩
theorem below_self (w : World) : Below w.heap.size w w := ⟨rfl, rfl, rfl, Nat.le_refl _, fun _ _ => rfl⟩
theorem GoesP.goes {o : Oper} {Q : Exit → Act → World → Prop} {K : TM → MM → Prop} (h : GoesP P cx W0 ok0 S0 β0 o a w mm β K) : Goes P cx W0 ok0 S0 β0 o a w Q K := by
  obtain ⟨v, hr, tm', h', hk⟩ := h
  exact goes_val (hr w (fun _ => below_self w)) ⟨tm', mm, β, h', hk⟩
theorem GoesP.calm {o : Oper} {calm : Bool} {Q : Exit → Act → World → Prop} {K : TM → MM → Prop} (h : GoesP P cx W0 ok0 S0 β0 o a w mm β K) : GoesC P cx W0 ok0 S0 β0 o a w calm Q K := by
  obtain ⟨v, hr, tm', h', hk⟩ := h
  exact goesC_val (hr w (fun _ => below_self w)) (fun _ => below_self w) ⟨tm', mm, β, h', hk⟩
theorem Goes.rough {o : Oper} {Q : Exit → Act → World → Prop} {K : TM → MM → Prop} (h : Goes P cx W0 ok0 S0 β0 o a w Q K) : GoesC P cx W0 ok0 S0 β0 o a w false Q K :=
  OpW.mono (fun _ _ h => ⟨fun h => (by cases h), h⟩) h
theorem goes_put (h : SRep cx W0 ok0 S0 β0 tm mm β a w) {o : Oper} {K : TM → MM → Prop} {x : AV} {v : Value} (hr : ∀ w2, (loadB o = true → Below w.heap.size w w2) → (execOp a.eval o).run P w2 = .ok (.value v) w2)
    (hk : putK cx o.dst x tm fun tm => K tm mm) (hx : x.rep w (okB W0 ok0 S0 mm β w) β v) : GoesP P cx W0 ok0 S0 β0 o a w mm β K := by
  obtain ⟨tm', h', hk'⟩ := putK_ok h hk hx
  exact ⟨v, hr, tm', h', hk'⟩
theorem cell_below {w w2 : World} (hb : Below w.heap.size w w2) {ad : Addr} {u : Value} (h : w.cell? ad = some u) : w2.cell? ad = some u := by
  have hlt : ad.block < w.heap.size := by
    rcases Nat.lt_or_ge ad.block w.heap.size with h1 | h1
    · exact h1
    · simp [World.cell?, Array.getElem?_eq_none h1] at h
  rw [World.cell?_of_block (w := w) (hb.block _ hlt)]
  exact h
end
end Go.Proofs.YtgdcefohfebleaaDoor.V
