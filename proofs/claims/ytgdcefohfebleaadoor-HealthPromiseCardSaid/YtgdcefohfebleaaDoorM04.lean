/-
  Proved here, step by step for the theorem UW: append.; append, put together; slice literals.; Slice literals.; What a call does; keys told otherwise.
  Conditions: those that stand in each theorem.
-/
import Derived.Lib.AppendZerosOnto
import Derived.Test.YtgdcefohfebleaaDoorM03
/- append. -/
set_option linter.unusedVariables false
set_option linter.unusedSimpArgs false
set_option linter.unusedSectionVars false
namespace Go.Proofs.YtgdcefohfebleaaDoor.V
open Go Go.RowKit

section
variable {P : Program} {cx : Cx} {W0 : World} {ok0 S0 : Nat → Prop} {β0 : Nat → Ent} {tm : TM} {mm : MM} {β : Nat → Ent} {a : Act} {w : World} {o : Oper} {Q : Exit → Act → World → Prop} {K : TM → MM → Prop}

theorem getD_app {α : Type} (l m : List α) (i : Nat) (d : α) : (l ++ m).getD i d = if i < l.length then l.getD i d else m.getD (i - l.length) d := by
  simp only [List.getD_eq_getElem?_getD]
  split
  · rename_i h; rw [List.getElem?_append_left h]
  · rename_i h; rw [List.getElem?_append_right (by omega)]
theorem appDV_ok {r s : DV} {K : DV → Prop} (h : appDV r s K) : r.isSl = true ∧ s.isSl = true ∧ r.width = s.width ∧ ∃ t, K t ∧ t.isSl = true ∧ t.width = r.width ∧ t.len = r.len + s.len ∧
    ∀ i j, t.cell i j = if i < r.len then r.cell i j else s.cell (i - r.len) j := by
  unfold appDV at h
  split at h
  · obtain ⟨⟨rfl⟩, h⟩ := h
    refine ⟨rfl, rfl, rfl, _, h, rfl, rfl, by simp [DV.len], fun i j => ?_⟩
    simp only [DV.cell, DV.len, getD_app]; split <;> first | (simp_all; done) | (simp_all; intro hq; omega)
  · refine ⟨rfl, rfl, rfl, _, h, rfl, rfl, by simp [DV.len], fun i j => ?_⟩
    simp only [DV.cell, DV.len, getD_app]; split <;> first | (simp_all; done) | (simp_all; intro hq; omega)
  · refine ⟨rfl, rfl, rfl, _, h, rfl, rfl, by simp [DV.len], fun i j => ?_⟩
    simp only [DV.cell, DV.len, getD_app]; split <;> first | (simp_all; done) | (simp_all; intro hq; omega)
  · obtain ⟨⟨hk⟩, h⟩ := h
    refine ⟨rfl, rfl, hk, _, h, rfl, rfl, rfl, fun i j => ?_⟩
    rename_i k n el k' n' el'
    show (bif Nat.blt i n then el i j else el' (i - n) j) = if i < n then el i j else el' (i - n) j
    cases hb : Nat.blt i n with
    | true => rw [if_pos (by simpa [Nat.blt_eq] using hb)]; rfl
    | false => rw [if_neg (fun hl => by rw [← Nat.blt_eq, hb] at hl; cases hl)]; rfl
  · exact h.elim

/-- The cells of n elements, by content. -/
def CellsRep (w : World) (ok : Nat → Prop) (r : DV) (vs : List Value) : Prop :=
  vs.length = r.len * r.width ∧ ∀ i, i < r.len → ∀ j, j < r.width → ∃ u, vs[i * r.width + j]? = some u ∧ one u = true ∧ (r.cell i j).rep w ok u
theorem CellsRep.ones {ok : Nat → Prop} {r : DV} {vs : List Value} (h : CellsRep w ok r vs) : ∀ u ∈ vs, one u = true := by
  intro u hu
  obtain ⟨m, hm, rfl⟩ := List.getElem_of_mem hu
  have hlt := hm
  rw [h.1] at hlt
  have hw : 0 < r.width := by
    rcases Nat.eq_zero_or_pos r.width with h0 | h0
    · rw [h0] at hlt; omega
    · exact h0
  have h1 : m / r.width < r.len := (Nat.div_lt_iff_lt_mul hw).2 hlt
  obtain ⟨u, hu, ho, _⟩ := h.2 _ h1 (m % r.width) (Nat.mod_lt _ hw)
  rw [Nat.mul_comm, Nat.div_add_mod, List.getElem?_eq_getElem hm] at hu
  cases hu
  exact ho
/-- The cells that lie from an address on. -/
theorem read_cells {ok : Nat → Prop} {r : DV} {ad : Addr} (h : ∀ i, i < r.len → ∀ j, j < r.width → ∃ u, w.cell? (ad.add (i * r.width + j)) = some u ∧ one u = true ∧ (r.cell i j).rep w ok u) :
    ∃ vs, CellsRep w ok r vs ∧ ∀ m u, vs[m]? = some u → w.cell? (ad.add m) = some u := by
  have hz : ∀ m, m < r.len * r.width → m / r.width < r.len ∧ m % r.width < r.width ∧ m / r.width * r.width + m % r.width = m := fun m hm => by
    have hw : 0 < r.width := by
      rcases Nat.eq_zero_or_pos r.width with h0 | h0
      · rw [h0] at hm; omega
      · exact h0
    exact ⟨(Nat.div_lt_iff_lt_mul hw).2 hm, Nat.mod_lt _ hw, by rw [Nat.mul_comm]; exact Nat.div_add_mod _ _⟩
  refine ⟨(List.range (r.len * r.width)).map fun m => (w.cell? (ad.add m)).getD undef, ⟨by simp, fun i hi j hj => ?_⟩, fun m u hu => ?_⟩
  · obtain ⟨u, hu, ho, hr⟩ := h i hi j hj
    refine ⟨u, ?_, ho, hr⟩
    have hlt : i * r.width + j < r.len * r.width := by
      calc i * r.width + j < i * r.width + r.width := by omega
        _ = (i + 1) * r.width := by rw [Nat.add_mul]; omega
        _ ≤ _ := Nat.mul_le_mul_right _ hi
    rw [List.getElem?_map, List.getElem?_range hlt]
    simp [hu]
  · rw [List.getElem?_map, Option.map_eq_some_iff] at hu
    obtain ⟨m', hm', rfl⟩ := hu
    have hlt : m < r.len * r.width := by
      rcases Nat.lt_or_ge m (r.len * r.width) with h' | h'
      · exact h'
      · rw [List.getElem?_eq_none (by simpa using h')] at hm'; cases hm'
    rw [List.getElem?_range hlt] at hm'
    cases hm'
    obtain ⟨h1, h2, h3⟩ := hz m hlt
    obtain ⟨u, hu, _⟩ := h _ h1 _ h2
    rw [h3] at hu
    rw [hu]; rfl

theorem asDV_ok (h : SRep cx W0 ok0 S0 β0 tm mm β a w) {x : AV} {K : DV → Prop} (hk : asDV mm x K) {v : Value} (hx : x.rep w (okB W0 ok0 S0 mm β w) β v) :
    ∃ r, K r ∧ (r.isSl = true → ∃ A c, v = .slice A r.len c ∧ (r.len = 0 ∨ ∃ ad vs, A = some ad ∧ CellsRep w (okB W0 ok0 S0 mm β w) r vs ∧ ∀ m u, vs[m]? = some u → w.cell? (ad.add m) = some u)) := by
  have data : ∀ r : DV, r.rep w (okB W0 ok0 S0 mm β w) v → r.isSl = true → ∃ A c, v = .slice A r.len c ∧ (r.len = 0 ∨ ∃ ad vs, A = some ad ∧ CellsRep w (okB W0 ok0 S0 mm β w) r vs ∧ ∀ m u, vs[m]? = some u → w.cell? (ad.add m) = some u) := by
    intro r hr hs
    obtain ⟨A, c, rfl, hcap, hcell⟩ := (DV.rep_sl hs v).1 hr
    refine ⟨A, c, rfl, ?_⟩
    rcases Nat.eq_zero_or_pos r.len with h0 | h0
    · exact .inl h0
    · obtain ⟨ad, rfl, _, hcell⟩ := hcell h0
      obtain ⟨vs, h1, h2⟩ := read_cells hcell
      exact .inr ⟨ad, vs, rfl, h1, h2⟩
  unfold asDV at hk
  split at hk
  · exact ⟨_, hk, data _ hx⟩
  · exact ⟨_, hk, data _ hx.1⟩
  · rename_i b n
    obtain ⟨e, r, hb, ⟨hn⟩, hk⟩ := rowK_ok hk
    refine ⟨r, hk, fun _ => ?_⟩
    have hv : (β b).own n v := hx
    unfold Ent.own at hv
    split at hv
    · obtain ⟨h0, A, rfl⟩ := hv
      exact ⟨A, 0, by rw [← hn, h0], .inl (by omega)⟩
    · obtain ⟨rfl, _⟩ := hv
      refine ⟨_, _, by rw [hn], ?_⟩
      rcases Nat.eq_zero_or_pos r.len with h0 | h0
      · exact .inl h0
      · obtain ⟨_, _, vs, hh, _, _, hcell⟩ := row_cells h hb h0
        obtain ⟨us, h1, h2⟩ := read_cells (ad := ⟨(β b).blk, 0, none⟩) (r := r) (w := w) (ok := okB W0 ok0 S0 mm β w) (fun i hi j hj => by
          obtain ⟨u, hu, h1, hr⟩ := hcell i hi j hj
          exact ⟨u, by rw [add_plain0, cell_heap hh]; simpa using hu, h1, hr⟩)
        exact .inr ⟨_, us, rfl, h1, h2⟩
  · rename_i b k off n
    obtain ⟨e, r, hb, hk⟩ := rowK_ok hk
    cases hq : Nat.beq k r.width with
    | false => simp only [hq, cond_false] at hk
    | true =>
      simp only [hq, cond_true] at hk
      have hq' := Nat.eq_of_beq_eq_true hq
      obtain ⟨⟨hle⟩, hk⟩ := hk
      obtain ⟨r', hk, hs', hl', hw', hc'⟩ := cutDV_ok hk (by omega) hle
      refine ⟨r', hk, fun _ => ?_⟩
      obtain ⟨A, c, rfl, hcap, hA⟩ := hx
      refine ⟨A, c, by rw [hl', show off + n - off = n by omega], ?_⟩
      rcases Nat.eq_zero_or_pos n with h0 | h0
      · exact .inl (by omega)
      · obtain rfl := hA h0
        obtain ⟨_, _, vs, hh, _, _, hcell⟩ := row_cells h hb (by omega)
        obtain ⟨us, h1, h2⟩ := read_cells (ad := ⟨(β b).blk, off * k, none⟩) (r := r') (w := w) (ok := okB W0 ok0 S0 mm β w) (fun i hi j hj => by
          rw [hw'] at hj
          obtain ⟨u, hu, h1, hr⟩ := hcell (off + i) (by omega) j hj
          refine ⟨u, ?_, h1, by rw [hc' i j (by omega)]; exact hr⟩
          rw [add_plain0, cell_heap hh, hq', hw', ← Nat.add_assoc, ← Nat.add_mul]; exact hu)
        exact .inr ⟨_, us, rfl, h1, h2⟩
  · exact hk.elim
theorem srcK_ok (h : SRep cx W0 ok0 S0 β0 tm mm β a w) (hc : Cok P cx W0 ok0 S0) {t2 : TypeId} {zero : List Value} {x : AV} {K : DV → Prop} (hk : srcK cx t2 zero mm x K) {v : Value} (hx : x.rep w (okB W0 ok0 S0 mm β w) β v) :
    ∃ r, K r ∧ (r.isSl = true → ∃ news, Src P r.width t2 v r.len news w ∧ CellsRep w (okB W0 ok0 S0 mm β w) r news) := by
  have nul : ∀ r : DV, r.len = 0 → CellsRep w (okB W0 ok0 S0 mm β w) r [] := fun r h0 => ⟨by simp [h0], fun i hi => by omega⟩
  unfold srcK at hk
  split at hk
  · have hx : v = _ := hx
    subst hx
    obtain ⟨e, te, hu, T, hk⟩ := ewK_ok hc hk
    have : ∃ r, K r ∧ r.len = 0 := by
      unfold emptyDV at hk
      split at hk <;> exact ⟨_, hk, rfl⟩
    obtain ⟨r, hk, h0⟩ := this
    exact ⟨r, hk, fun _ => ⟨[], by rw [h0]; exact Src.ofNil w hu 0, nul r h0⟩⟩
  · rename_i s
    have hx : v = _ := hx
    subst hx
    unfold strT at hk
    split at hk
    · exact hk.elim
    rename_i ti hti
    cases hkd : Nat.beq ti.kind 4 with
    | false => rw [hkd] at hk; exact hk.elim
    | true =>
      rw [hkd] at hk
      have hl : (DV.ints .u8 (bytesOf s)).len = s.size := by simp [DV.len, bytesOf]
      refine ⟨_, hk, fun _ => ⟨byteCells s, by rw [hl]; exact Src.ofString w ((hc.tb t2 ti hti).st (Nat.eq_of_beq_eq_true hkd)) s, by rw [hl, byteCells_length]; simp [DV.width], fun i hi j hj => ?_⟩⟩
      have e2 : j = 0 := by simp [DV.width] at hj; exact hj
      subst e2
      rw [hl] at hi
      have hi2 : i < s.data.toList.length := by simpa using hi
      refine ⟨.int .u8 (s.data.toList[i]).toNat, ?_, rfl, ?_⟩
      · simp only [DV.width, byteCells, Nat.mul_one, Nat.add_zero, List.getElem?_map, List.getElem?_eq_getElem hi2, Option.map_some]
      · show _ = _
        simp only [bytesOf, List.getD_eq_getElem?_getD, List.getElem?_map, List.getElem?_eq_getElem hi2, Option.map_some, Option.getD_some]
  · obtain ⟨e, te, hu, T, hk⟩ := ewK_ok hc hk
    obtain ⟨r, hk, hr⟩ := asDV_ok h hk hx
    refine ⟨r, hk, fun hs => ?_⟩
    obtain ⟨A, c, rfl, hA⟩ := hr hs
    rcases hA with h0 | ⟨ad, vs, rfl, h1, h2⟩
    · refine ⟨[], ?_, nul r h0⟩
      rw [h0]
      cases A with
      | none => exact Src.ofNil w hu c
      | some ad => exact Src.ofSlice w hu ad 0 c [] (by simp) (fun j u h => by simp at h) (fun u h => by simp at h)
    · exact ⟨vs, Src.ofSlice w hu ad _ c vs h1.1 h2 (fun u hu => by rw [← one_eq]; exact h1.ones u hu), h1⟩
end
end Go.Proofs.YtgdcefohfebleaaDoor.V
/- append, put together; slice literals. -/
set_option linter.unusedVariables false
set_option linter.unusedSimpArgs false
set_option linter.unusedSectionVars false
namespace Go.Proofs.YtgdcefohfebleaaDoor.V
open Go Go.RowKit

section
variable {P : Program} {cx : Cx} {W0 : World} {ok0 S0 : Nat → Prop} {β0 : Nat → Ent} {tm : TM} {mm : MM} {β : Nat → Ent} {a : Act} {w : World} {o : Oper} {Q : Exit → Act → World → Prop} {K : TM → MM → Prop}

theorem CellsRep.get {ok : Nat → Prop} {r : DV} {vs : List Value} (h : CellsRep w ok r vs) : ∀ i, i < r.len → ∀ j, j < r.width → ∃ u, vs[i * r.width + j]? = some u ∧ one u = true ∧ (r.cell i j).rep w ok u := h.2
theorem app_get {ok : Nat → Prop} {r s t : DV} {olds news : List Value} (hr : CellsRep w ok r olds) (hs : CellsRep w ok s news) (hw : r.width = s.width) (tw : t.width = r.width) (tl : t.len = r.len + s.len)
    (tc : ∀ i j, t.cell i j = if i < r.len then r.cell i j else s.cell (i - r.len) j) : CellsRep w ok t (olds ++ news) := by
  refine ⟨by rw [List.length_append, hr.1, hs.1, tl, tw, hw, Nat.add_mul], fun i hi j hj => ?_⟩
  rw [tw] at hj ⊢
  rw [tc]
  by_cases h1 : i < r.len
  · rw [if_pos h1]
    obtain ⟨u, hu, h⟩ := hr.2 i h1 j hj
    refine ⟨u, ?_, h⟩
    rw [List.getElem?_append_left]
    · exact hu
    · have := List.getElem?_eq_some_iff.1 hu
      exact this.1
  · rw [if_neg h1]
    obtain ⟨u, hu, h⟩ := hs.2 (i - r.len) (by omega) j (by omega)
    refine ⟨u, ?_, h⟩
    rw [List.getElem?_append_right]
    · rw [hr.1, ← hu, hw]
      congr 1
      have : i * s.width = r.len * s.width + (i - r.len) * s.width := by rw [← Nat.add_mul]; congr 1; omega
      omega
    · rw [hr.1]
      have : r.len * r.width ≤ i * r.width := Nat.mul_le_mul_right _ (by omega)
      omega
theorem CellsRep.mono {w' : World} {ok ok' : Nat → Prop} {r : DV} {vs : List Value} (h : CellsRep w ok r vs) (hw : ∀ b, ok b → w'.heap[b]? = w.heap[b]?) (ho : ∀ b, ok b → ok' b) : CellsRep w' ok' r vs :=
  ⟨h.1, fun i hi j hj => by
    obtain ⟨u, h1, h2, h3⟩ := h.2 i hi j hj
    exact ⟨u, h1, h2, DV.rep_mono hw ho _ h3⟩⟩

/-- There is room. -/
theorem run_room (t tx ty e : TypeId) (i : TypeInfo) (ht : P.underlying t = some (.slice e)) (hi : P.info? e = some i) (g n cap : Nat) (vs : List Value) (e0 : TypeId) (hg : w.heap[g]? = some (.cells vs.toArray e0 (0, 0))) {x : Value} {m : Nat} {news : List Value}
    (hs : Src P i.size tx x m news w) (hroom : n + m ≤ cap) (hfit : n * i.size + news.length ≤ vs.length) :
    (Builtin.append_ #[t, tx] ty #[.slice (some ⟨g, 0, none⟩) n cap, x]).run P w = .ok (.slice (some ⟨g, 0, none⟩) (n + m) cap) (w.setRow g (vs.take (n * i.size) ++ news ++ vs.drop (n * i.size + news.length)).toArray) := by
  have hst := run_storeCells_at P g (n * i.size) e0 news 0 vs.toArray w hg (by simpa using hfit) hs.one
  simp only [Nat.add_zero] at hst
  rcases hs.kind with ⟨e', hk⟩ | hk <;> simp [Builtin.append_, run_underlying ht, run_underlying hk, sizeOf, typeInfo, hi, hs.len, hroom, hs.cells, Addr.add_lit, hst]

/-- There is none: a new row, and what it holds. -/
theorem run_grow {e : TypeId} {te : TI} (T : TIok P e te) {t tx ty : TypeId} (ht : P.underlying t = some (.slice e)) {base : Option Addr} {n cap : Nat} {ok : Nat → Prop} {r s r' : DV} {olds news : List Value} {x : Value}
    (hold : (Builtin.firstCells te.cells n (.slice base n cap)).run P w.drew = .ok olds.toArray w.drew) (hn : n = r.len) (ho : CellsRep w ok r olds) (hs : Src P te.cells tx x s.len news w) (hsr : CellsRep w ok s news) (hw : r.width = s.width) (hwt : r.width = te.cells)
    (hr' : r'.isSl = true) (tw : r'.width = r.width) (tl : r'.len = r.len + s.len) (tc : ∀ i j, r'.cell i j = if i < r.len then r.cell i j else s.cell (i - r.len) j) (hg : cap < n + s.len) (hb : (r.len + s.len) * te.bytes ≤ maxBytes) (hb0 : 0 < te.bytes) :
    ∃ vs cap', (Builtin.append_ #[t, tx] ty #[.slice base n cap, x]).run P w = .ok (.slice (some ⟨w.heap.size, 0, none⟩) r'.len cap') (w.drew.alloc (.cells vs.toArray e)) ∧ NewRep w.drew ok β e cap' vs (.row e r') := by
  obtain ⟨i, z, hi1, hi2, hi3, hi4, hi5⟩ := T.info
  have hmb : (n + s.len) * i.bytes ≤ 140737488355328 := by rw [hi3, hn]; exact hb
  have hle : n + s.len ≤ (n + s.len) * i.bytes := by
    calc n + s.len = (n + s.len) * 1 := by omega
      _ ≤ _ := Nat.mul_le_mul_left _ (by omega)
  have hr := run_append_grow_src (P := P) w t tx ty e i z ht hi1 hi4 base n cap olds (by rw [hi2]; exact hold) x s.len news (by rw [hi2]; exact hs) hg (by omega) (growslice_fits hg hmb)
  have hge := grownCap_ge w (n + s.len) cap e
  have hA := app_get ho hsr hw tw tl tc
  refine ⟨(olds ++ news) ++ (Builtin.zeroCells z.cells (grownCap w (n + s.len) cap e - (n + s.len))).toList, grownCap w (n + s.len) cap e, ?_, rfl, hr', ?_, by omega, fun i' hi' j hj => ?_⟩
  · rw [hr, tl, hn]
    congr 3
    apply Array.ext'
    simp
  · rw [List.length_append, hA.1, Array.length_toList, size_zeroCells, hi5, List.size_toArray, T.len, tw, hwt, ← Nat.add_mul]
    congr 1; omega
  · obtain ⟨u, hu, h1, h2⟩ := hA.2 i' hi' j hj
    refine ⟨u, ?_, h1, DV.rep_mono (w := w) (w' := w.drew) (fun _ _ => rfl) (fun _ h => h) _ h2⟩
    rw [List.getElem?_append_left]
    · exact hu
    · exact (List.getElem?_eq_some_iff.1 hu).1

theorem newK_nil (h : SRep cx W0 ok0 S0 β0 tm mm β a w) {d : Nat} {e : TypeId} {r : DV} (hk : newK cx (some d) (.row e r) (.own d r.len) tm mm K) (hs : r.isSl = true) (hl : r.len = 0) (A : Option Addr) :
    ∃ tm' mm' β', SRep cx W0 ok0 S0 β0 tm' mm' β' (a.put (some d) (.slice A 0 0)) w ∧ K tm' mm' := by
  unfold newK at hk
  simp only [killT_eq, killM_eq] at hk
  cases hdk : Nat.blt d V.hk with
  | false => simp only [hdk, cond_false] at hk
  | true =>
  simp only [hdk, cond_true] at hk
  obtain ⟨β', h1, h2⟩ := h.empty (d := d) (by simpa [Nat.blt_eq] using hdk) e r hs hl
  obtain ⟨tm', h', hk'⟩ := putK_ok h2 hk (v := .slice A 0 0) (by
    show Ent.own _ _ _
    unfold Ent.own
    rw [if_pos h1]
    exact ⟨hl, A, rfl⟩)
  exact ⟨tm', _, β', h', hk'⟩
theorem kill_row (b : Nat) (e : TypeId) (r : DV) : (ABlk.row e r).kill b = .row e r := rfl
theorem lkM_set_cons (b : Nat) (x : ABlk) (mm : MM) : ∀ k, lkM k (setM b x mm) = lkM k ((b, x) :: mm) := fun k => by rw [lkM_set, lkM_cons]
theorem appendK_ok (h : SRep cx W0 ok0 S0 β0 tm mm β a w) (hc : Cok P cx W0 ok0 S0) {dd : Option Nat} {t t2 : TypeId} (ty : TypeId) {s x : AV} (hk : appendK cx dd t t2 s x tm mm K) {u v : Value} (hs : s.rep w (okB W0 ok0 S0 mm β w) β u) (hx : x.rep w (okB W0 ok0 S0 mm β w) β v) :
    ∃ y w' tm' mm' β', (Builtin.append_ #[t, t2] ty #[u, v]).run P w = .ok y w' ∧ SRep cx W0 ok0 S0 β0 tm' mm' β' (a.put dd y) w' ∧ K tm' mm' := by
  unfold appendK at hk
  obtain ⟨e, te, hu, T, hk1⟩ := ewK_ok hc hk
  clear hk
  obtain ⟨r2, hk2, hsrc⟩ := srcK_ok h hc hk1 hx
  clear hk1
  cases hq : (Nat.beq te.cells r2.width && Nat.blt 0 te.bytes) with
  | false => simp only [hq, cond_false] at hk2
  | true =>
  simp only [hq, cond_true] at hk2
  simp only [Bool.and_eq_true] at hq
  have hw2 : te.cells = r2.width := Nat.eq_of_beq_eq_true hq.1
  have hb0 : 0 < te.bytes := by have := hq.2; rwa [Nat.blt_eq] at this
  cases dd with
  | none => exact hk2.elim
  | some d =>
  simp only at hk2
  obtain ⟨i, z, hi1, hi2, hi3, hi4, hi5⟩ := T.info
  -- nothing is appended
  have nothing : r2.isSl = true → r2.len = 0 → ∀ (base : Option Addr) (n c : Nat), n ≤ c → (Builtin.append_ #[t, t2] ty #[.slice base n c, v]).run P w = .ok (.slice base n c) w := by
    intro hsl h0 base n c hle
    obtain ⟨news, hS, _⟩ := hsrc hsl
    have hnil : news = [] := List.eq_nil_of_length_eq_zero (by have := hS.newsLen; rw [h0] at this; simpa using this)
    rw [h0, hnil, ← hw2, ← hi2] at hS
    exact run_append_nothing w t t2 ty e i hu hi1 base n c hle v hS
  -- a slice with no cells of its own before it
  have none0 : ∀ (ok : Nat → Prop) (r : DV), r.len = 0 → CellsRep w ok r [] := fun ok r h0 => ⟨by simp [h0], fun i hi => by omega⟩
  have first0 : ∀ A : Option Addr, (Builtin.firstCells te.cells 0 (.slice A 0 0)).run P w.drew = .ok ([] : List Value).toArray w.drew := by
    intro A
    cases A with
    | none => exact run_firstCells_none w.drew _ _ _ _
    | some ad => exact run_firstCells_some w.drew _ _ ad 0 0 [] (by simp) (fun j v h => by simp at h)
  split at hk2
  · rename_i b n
    rw [getK_eq] at hk2
    split at hk2
    · rename_i e0 r hb
      cases hq3 : (Nat.blt b V.hk && (Nat.beq e0 e && Nat.beq te.cells r.width)) with
      | false => simp only [hq3, cond_false] at hk2
      | true =>
      simp only [hq3, cond_true] at hk2
      simp only [Bool.and_eq_true] at hq3
      have hbk : b < V.hk := by have := hq3.1; rwa [Nat.blt_eq] at this
      obtain rfl : e0 = e := Nat.eq_of_beq_eq_true hq3.2.1
      have hwr : te.cells = r.width := Nat.eq_of_beq_eq_true hq3.2.2
      obtain ⟨⟨hn⟩, ⟨hby⟩, hk2⟩ := hk2
      obtain ⟨sr, s2, hww, r', hk2, hs', hw', hl', hc'⟩ := appDV_ok hk2
      simp only [killT_eq, killM_eq, setK_eq] at hk2
      obtain ⟨news, hS, hnr⟩ := hsrc s2
      rw [← hw2] at hS
      -- what is left to show, once the block is told
      have fin : ∀ (β' : Nat → Ent) (w' : World) (y : Value), SRep cx W0 ok0 S0 β0 (killTM b tm) ((b, .row e0 r') :: killMM b mm) β' a w' → (β' b).own r'.len y →
          ∃ tm' mm' β', SRep cx W0 ok0 S0 β0 tm' mm' β' (a.put (some d) y) w' ∧ K tm' mm' := by
        intro β' w' y h1 h2
        have h3 := h1.same (mm' := setM b (.row e0 r') (killMM b mm)) (lkM_set_cons b _ _)
        obtain ⟨tm', h4, hk4⟩ := putK_ok h3 hk2 (show AV.rep w' _ β' (.own b r'.len) y from h2)
        exact ⟨tm', _, β', h4, hk4⟩
      have hv : (β b).own n u := hs
      unfold Ent.own at hv
      split at hv
      · -- no block yet
        obtain ⟨h0, A, rfl⟩ := hv
        by_cases hm : r2.len = 0
        · obtain ⟨β', h1, h2⟩ := h.empty (d := b) hbk e0 r' hs' (by omega)
          obtain ⟨tm', mm', β', h3, hk3⟩ := fin β' w (.slice A 0 0) h2 (by unfold Ent.own; rw [if_pos h1]; exact ⟨by omega, A, rfl⟩)
          exact ⟨_, w, tm', mm', β', nothing s2 hm A 0 0 (Nat.le_refl _), h3, hk3⟩
        · obtain ⟨vs, cap', hr, hN⟩ := run_grow (β := β) (ty := ty) T hu (base := A) (n := 0) (cap := 0) (r := r) (first0 A) (by omega) (none0 (okB W0 ok0 S0 mm β w) r (by omega)) hS hnr hww hwr.symm hs' hw' hl' hc' (by omega) hby hb0
          obtain ⟨β', h1, h2⟩ := h.drew.renew (d := b) hbk (.row e0 r') vs e0 cap' hN
          obtain ⟨tm', mm', β', h3, hk3⟩ := fin β' _ _ h2 (by unfold Ent.own; rw [if_neg (by rw [h1]; simp), h1]; exact ⟨rfl, hN.2.2.2.1⟩)
          exact ⟨_, _, tm', mm', β', hr, h3, hk3⟩
      · rename_i hnil
        obtain ⟨rfl, hcap⟩ := hv
        have hme := h.me b
        rw [hb] at hme
        have hme2 := hme.2
        rw [if_neg hnil] at hme2
        obtain ⟨vs, hh, hvl, hrc, hcell⟩ := hme2
        have hlv : live mm β b := by unfold live; rw [hb]; simpa [ABlk.lives] using hnil
        by_cases hroom : n + r2.len ≤ (β b).cap
        · have hfit : n * te.cells + news.length ≤ vs.length := by
            rw [hS.newsLen, hvl, ← hwr, ← Nat.add_mul]
            exact Nat.mul_le_mul_right _ hroom
          have hr := run_room t t2 ty e0 i hu hi1 _ n _ vs e0 hh (by rw [hi2]; exact hS) hroom (by rw [hi2]; exact hfit)
          rw [hi2] at hr
          have h1 := (h.kill b).write (d := b) ((live_kill b b).2 hlv) (.row e0 r') (w.setRow (β b).blk (vs.take (n * te.cells) ++ news ++ vs.drop (n * te.cells + news.length)).toArray) rfl rfl rfl (setRow_size _ _ _) (fun k hk => setRow_other w _ k _ hk)
            (by rw [live_set, if_pos rfl]; simpa [ABlk.lives] using hnil) (fun ok' ho' => by
              have hmono : ∀ (d : DV) (z : Value), d.rep w (okB W0 ok0 S0 mm β w) z → d.rep (w.setRow (β b).blk (vs.take (n * te.cells) ++ news ++ vs.drop (n * te.cells + news.length)).toArray) ok' z :=
                fun d z hz => DV.rep_mono (fun c hc => setRow_other w _ c _ (fun e => hc.2.2 b hlv e.symm)) (fun c hc => ho' c ((okB_kill b c).2 hc)) d hz
              refine ⟨hs', ?_⟩
              rw [if_neg hnil]
              refine ⟨_, setRow_heap w _ _ _ e0 _ hh, ?_, by omega, fun i' hi' j hj => ?_⟩
              · rw [hw', ← hvl]; simp; omega
              · rw [hw'] at hj ⊢
                rw [seg_get vs news _ _ hfit, hc']
                by_cases hin : i' < r.len
                · obtain ⟨z, hz, h1z, hrz⟩ := hcell i' hin j hj
                  rw [if_pos hin, if_neg (by
                    rintro ⟨q1, _⟩
                    have : (i' + 1) * r.width ≤ n * r.width := Nat.mul_le_mul_right _ (by omega)
                    rw [Nat.add_mul] at this
                    rw [hwr] at q1
                    omega)]
                  exact ⟨z, hz, h1z, hmono _ _ hrz⟩
                · obtain ⟨z, hz, h1z, hrz⟩ := hnr.2 (i' - r.len) (by omega) j (by omega)
                  have e1 : i' * r.width = n * r.width + (i' - r.len) * r.width := by rw [← Nat.add_mul]; congr 1; omega
                  have hzl := (List.getElem?_eq_some_iff.1 hz).1
                  rw [if_neg hin, if_pos (by rw [hwr]; rw [← hww] at hzl; omega)]
                  refine ⟨z, ?_, h1z, hmono _ _ hrz⟩
                  rw [← hz]
                  congr 1
                  rw [hwr, ← hww]; omega)
          have h2 := h1.same (mm' := (b, .row e0 r') :: killMM b mm) (fun k => (lkM_set_cons b _ _ k).symm)
          obtain ⟨tm', mm', β', h3, hk3⟩ := fin β _ (.slice (some ⟨(β b).blk, 0, none⟩) (n + r2.len) (β b).cap) h2 (by
            unfold Ent.own; rw [if_neg hnil, hl', ← hn]; exact ⟨rfl, hroom⟩)
          exact ⟨_, _, tm', mm', β', hr, h3, hk3⟩
        · obtain ⟨us, hus, hcells⟩ := read_cells (ad := ⟨(β b).blk, 0, none⟩) (r := r) (w := w) (ok := okB W0 ok0 S0 mm β w) (fun i hi j hj => by
            obtain ⟨u, hu, h1, hr⟩ := hcell i hi j hj
            exact ⟨u, by rw [add_plain0, cell_heap hh]; simpa using hu, h1, hr⟩)
          have hfc := run_firstCells_some (P := P) w.drew te.cells n ⟨(β b).blk, 0, none⟩ n (β b).cap us (by rw [hus.1, hn, hwr]) (by simpa using hcells)
          obtain ⟨vs', cap', hr, hN⟩ := run_grow (β := β) (ty := ty) T hu (base := some ⟨(β b).blk, 0, none⟩) (n := n) (cap := (β b).cap) (r := r) hfc hn hus hS hnr hww hwr.symm hs' hw' hl' hc' (by omega) hby hb0
          obtain ⟨β', h1, h2⟩ := h.drew.renew (d := b) hbk (.row e0 r') vs' e0 cap' hN
          obtain ⟨tm', mm', β', h3, hk3⟩ := fin β' _ _ h2 (by unfold Ent.own; rw [if_neg (by rw [h1]; simp), h1]; exact ⟨rfl, hN.2.2.2.1⟩)
          exact ⟨_, _, tm', mm', β', hr, h3, hk3⟩
    · exact hk2.elim
  · have hs : u = _ := hs
    subst hs
    obtain ⟨s2, ⟨hby⟩, hk2⟩ := lenK_ok hk2
    obtain ⟨news, hS, hnr⟩ := hsrc s2
    rw [← hw2] at hS
    by_cases hm : r2.len = 0
    · obtain ⟨tm', mm', β', h3, hk3⟩ := newK_nil h hk2 s2 hm none
      exact ⟨_, w, tm', mm', β', nothing s2 hm none 0 0 (Nat.le_refl _), h3, hk3⟩
    · obtain ⟨vs', cap', hr, hN⟩ := run_grow (β := β) (ty := ty) T hu (base := none) (n := 0) (cap := 0) (r := .gen r2.width 0 fun _ _ => .v undef) (r' := r2) (first0 none) rfl (none0 (okB W0 ok0 S0 mm β w) _ rfl) hS hnr rfl hw2.symm s2 rfl
        (by simp [DV.len]) (fun i j => by simp [DV.len]) (by omega) (by simpa [DV.len] using hby) hb0
      obtain ⟨tm', mm', β', h3, hk3⟩ := newK_ok h.drew (v := .slice (some ⟨w.heap.size, 0, none⟩) r2.len cap') hk2 vs' e cap' hN (fun w' ok' β' hb => by
        show Ent.own _ _ _
        unfold Ent.own
        rw [hb]
        exact ⟨rfl, hN.2.2.2.1⟩)
      exact ⟨_, _, tm', mm', β', hr, h3, hk3⟩
  · rename_i r
    obtain ⟨⟨hby, hpos⟩, hk2⟩ := hk2
    obtain ⟨sr, s2, hww, r', hk2, hs', hw', hl', hc'⟩ := appDV_ok hk2
    obtain ⟨news, hS, hnr⟩ := hsrc s2
    rw [← hw2] at hS
    obtain ⟨hrep, A, n, rfl⟩ := hs
    obtain ⟨A', c, e1, hcap, hcell⟩ := (DV.rep_sl sr _).1 hrep
    cases e1
    by_cases hm : r2.len = 0
    · have h0 : r.len = 0 := by omega
      obtain ⟨tm', mm', β', h3, hk3⟩ := newK_nil h hk2 hs' (by omega) A
      refine ⟨_, w, tm', mm', β', nothing s2 hm A _ _ (Nat.le_refl _), ?_, hk3⟩
      rw [h0]; exact h3
    · have hold : ∃ olds : List Value, (Builtin.firstCells te.cells r.len (.slice A r.len r.len)).run P w.drew = .ok olds.toArray w.drew ∧ CellsRep w (okB W0 ok0 S0 mm β w) r olds := by
        rcases Nat.eq_zero_or_pos r.len with h0 | h0
        · rw [h0]; exact ⟨[], first0 A, none0 _ r h0⟩
        · obtain ⟨ad, rfl, _, hcell⟩ := hcell h0
          obtain ⟨us, hus, hcells⟩ := read_cells hcell
          exact ⟨us, run_firstCells_some (P := P) w.drew te.cells r.len ad _ _ us (by rw [hus.1, hw2, hww]) (by simpa using hcells), hus⟩
      obtain ⟨olds, hfc, ho⟩ := hold
      obtain ⟨vs', cap', hr, hN⟩ := run_grow (β := β) (ty := ty) T hu (base := A) (n := r.len) (cap := r.len) (r := r) hfc rfl ho hS hnr hww (by omega) hs' hw' hl' hc' (by omega) hby hb0
      obtain ⟨tm', mm', β', h3, hk3⟩ := newK_ok h.drew (v := .slice (some ⟨w.heap.size, 0, none⟩) r'.len cap') hk2 vs' e cap' hN (fun w' ok' β' hb => by
        show Ent.own _ _ _
        unfold Ent.own
        rw [hb]
        exact ⟨rfl, hN.2.2.2.1⟩)
      exact ⟨_, _, tm', mm', β', hr, h3, hk3⟩
  · exact hk2.elim
theorem appendZK_ok (h : SRep cx W0 ok0 S0 β0 tm mm β a w) (hc : Cok P cx W0 ok0 S0) {dd : Option Nat} {t t2 : TypeId} (kq : IntKind) (ty : TypeId) {s : AV} {k : Int} (hk : appendZK cx dd t t2 s k tm mm K) {u : Value} (hs : s.rep w (okB W0 ok0 S0 mm β w) β u) :
    ∃ v w' tm' mm' β', (Builtin.append_ #[t, t2] ty #[u, .int kq k]).run P w = .ok v w' ∧ SRep cx W0 ok0 S0 β0 tm' mm' β' (a.put dd v) w' ∧ K tm' mm' := by
  unfold appendZK at hk
  split at hk
  · have hs : u = _ := hs
    subst hs
    obtain ⟨e, te, hu, T, hk⟩ := ewK_ok hc hk
    split at hk
    · exact hk.elim
    · rename_i ti hti
      cases hkb : (Nat.beq ti.kind 6 && Nat.blt 0 te.cells) with
      | false => rw [hkb] at hk; exact hk.elim
      | true =>
      simp only [hkb, cond_true] at hk
      simp only [Bool.and_eq_true] at hkb
      obtain ⟨hkd, hkc⟩ := hkb
      have hkc : 0 < te.cells := by simpa [Nat.blt_eq] using hkc
      obtain ⟨⟨h1, h3, h4⟩, hk⟩ := hk
      obtain ⟨kn, _, hu2, _⟩ := (hc.tb _ _ hti).it (Nat.eq_of_beq_eq_true hkd)
      obtain ⟨r, hk, hsl, hw, hl, hz⟩ := zerosDV_ok hk
      split at hk
      · rename_i d
        obtain ⟨i, z, hi1, hi2, hi3, hi4, hi5⟩ := T.info
        obtain ⟨k, rfl⟩ := Int.eq_ofNat_of_zero_le (show 0 ≤ k by omega)
        have hmb : (0 + k) * i.bytes ≤ 140737488355328 := by rw [hi3, Nat.zero_add]; have h3 : (k : Int) * te.bytes ≤ 140737488355328 := h3; rw [← Int.natCast_mul] at h3; omega
        have hle : 0 + k ≤ (0 + k) * i.bytes := by
          calc 0 + k = (0 + k) * 1 := by omega
            _ ≤ _ := Nat.mul_le_mul_left _ (by omega)
        have h0 : (Builtin.firstCells i.size 0 (.slice none 0 0)).run P w.drew = .ok ([] : List Value).toArray w.drew := run_firstCells_none w.drew i.size 0 0 0
        have hg : 0 < 0 + k := by omega
        have hr := Go.Lib.run_append_grow_zeros (P := P) w t t2 ty e i z kq kn hu hu2 hi1 hi4 none 0 0 [] h0 k (by omega) (by omega) hg (by omega) (by rw [Nat.zero_add] at hmb; omega) (growslice_fits hg hmb)
        have hge := grownCap_ge w (0 + k) 0 e
        rw [Nat.zero_add] at hr hge
        have hN : NewRep w.drew (okB W0 ok0 S0 mm β w.drew) β e (grownCap w k 0 e) (([] : List Value).toArray ++ Builtin.zeroCells z.cells k ++ Builtin.zeroCells z.cells (grownCap w k 0 e - k)).toList (.row e r) := by
          refine ⟨rfl, hsl, ?_, by rw [hl]; simpa using hge, fun i' hi' j hj => ?_⟩
          · simp only [Array.toList_append, List.length_append, Array.length_toList, size_zeroCells, hi5, List.size_toArray, T.len, hw]
            simp only [List.length_nil, Nat.zero_add, ← Nat.add_mul]
            congr 1; omega
          · rw [hl] at hi'
            rw [hw] at hj ⊢
            refine ⟨te.zero.getD j undef, ?_, ?_, hz _ _ i' j hi' hj⟩
            · have hm := made_get te.zero k i' j (by simpa using hi') hj
              have hzc : Builtin.zeroCells z.cells k = madeCells te.zero.toArray (k * te.zero.length) := by rw [hi5]; rfl
              rw [hzc]
              simp only [Array.toList_append, List.nil_append]
              rw [List.getElem?_append_left]
              · exact hm
              · exact (List.getElem?_eq_some_iff.1 hm).1
            · rw [List.getD_eq_getElem?_getD, List.getElem?_eq_getElem hj]; exact T.ones _ (List.getElem_mem hj)
        obtain ⟨tm', mm', β', h', hk'⟩ := newK_ok h.drew (v := .slice (some ⟨w.heap.size, 0, none⟩) k (grownCap w k 0 e)) hk _ e _ hN (fun w' ok' β' hb => by
            simp only [AV.rep, Ent.own, hb]
            simp
            simpa using hge)
        exact ⟨_, _, tm', mm', β', hr, by rw [Array.toArray_toList] at h'; exact h', hk'⟩
      · exact hk.elim
  · exact hk.elim
end
end Go.Proofs.YtgdcefohfebleaaDoor.V
/- Slice literals. -/
set_option linter.unusedVariables false
set_option linter.unusedSimpArgs false
set_option linter.unusedSectionVars false
namespace Go.Proofs.YtgdcefohfebleaaDoor.V
open Go Go.RowKit

section
variable {P : Program} {cx : Cx} {W0 : World} {ok0 S0 : Nat → Prop} {β0 : Nat → Ent} {tm : TM} {mm : MM} {β : Nat → Ent} {a : Act} {w : World} {o : Oper} {Q : Exit → Act → World → Prop} {K : TM → MM → Prop}

def preps (w : World) (ok : Nat → Prop) (β : Nat → Ent) : List (Nat × List AV) → List (List Value) → Prop
  | [], vs => vs = []
  | (_, cs) :: r, vs => ∃ v rest, vs = v :: rest ∧ AV.reps w ok β cs v ∧ preps w ok β r rest
def ereps (w : World) (ok : Nat → Prop) : List (List DV) → List (List Value) → Prop
  | [], vs => vs = []
  | x :: r, vs => ∃ v rest, vs = v :: rest ∧ dreps w ok x v ∧ ereps w ok r rest
theorem preps_mono {ok ok' : Nat → Prop} (ho : ∀ c, ok c → ok' c) : ∀ (l : List (Nat × List AV)) {vs : List (List Value)}, preps w ok β l vs → preps w ok' β l vs
  | [], _, h => h
  | (_, x) :: r, _, ⟨v, rest, e, h1, h2⟩ => ⟨v, rest, e, AV.reps_mono (fun _ _ => rfl) ho _ (fun _ _ => rfl) h1, preps_mono ho r h2⟩
theorem elemsK_ok : ∀ (l : List (Nat × List AV)) {tm : TM} {mm : MM} (h : SRep cx W0 ok0 S0 β0 tm mm β a w) {K : TM → MM → List (List DV) → Prop} (hk : elemsK l tm mm K) {vs : List (List Value)} (hx : preps w (okB W0 ok0 S0 mm β w) β l vs),
    ∃ tm' mm' r, SRep cx W0 ok0 S0 β0 tm' mm' β a w ∧ (∀ c, okB W0 ok0 S0 mm β w c → okB W0 ok0 S0 mm' β w c) ∧ ereps w (okB W0 ok0 S0 mm' β w) r vs ∧ r.length = l.length ∧ K tm' mm' r
  | [], tm, mm, h, K, hk, vs, hx => ⟨tm, mm, [], h, fun _ h => h, hx, rfl, hk⟩
  | (_, x) :: l, tm, mm, h, K, hk, vs, hx => by
    obtain ⟨v, rest, rfl, h1, h2⟩ := hx
    obtain ⟨tm1, mm1, r, hs1, ho1, hr1, _, hk⟩ := frzsK_ok x h hk h1
    obtain ⟨tm2, mm2, rs, hs2, ho2, hr2, hl, hk⟩ := elemsK_ok l hs1 hk (preps_mono ho1 _ h2)
    exact ⟨tm2, mm2, r :: rs, hs2, fun c hc => ho2 c (ho1 c hc), ⟨v, rest, rfl, dreps_mono ho2 _ hr1, hr2⟩, by simp [hl], hk⟩
theorem parts_vals {ok : Nat → Prop} (k : Nat) : ∀ (ps : List (Nat × Operand)) (qs : List (Nat × List AV)) (j : Nat) {K : Prop}, PartsRep w ok β a ps qs → densK k j qs K →
    K ∧ ∃ vals, preps w ok β qs vals ∧ (∀ v ∈ vals, v.length = k ∧ ∀ u ∈ v, one u = true) ∧ vals.length = qs.length ∧ ∀ cells : List Value, j * k + vals.flatten.length ≤ cells.length →
      Instr.fill (fun i => some (i * k, k)) cells.toArray (ps.map fun (i, x) => (i, a.eval x)) = some (cells.take (j * k) ++ vals.flatten ++ cells.drop (j * k + vals.flatten.length)).toArray
  | [], [], j, K, _, hk => ⟨hk, [], rfl, fun _ h => (by cases h), rfl, fun cells _ => (by simp [Instr.fill])⟩
  | [], _ :: _, _, _, h, _ => h.elim
  | _ :: _, [], _, _, h, _ => h.elim
  | (i, x) :: ps, (i', cs) :: qs, j, K, hq, hk => by
    obtain ⟨rfl, ⟨vs, hr, hv, ho⟩, hq⟩ := hq
    simp only [densK] at hk
    cases hb : (Nat.beq i j && Nat.beq (lenL cs) k) with
    | false => simp only [hb, cond_false] at hk
    | true =>
      simp only [hb, cond_true] at hk
      simp only [Bool.and_eq_true] at hb
      obtain rfl : i = j := Nat.eq_of_beq_eq_true hb.1
      have hl : vs.length = k := by rw [reps_len _ hr, ← lenL_eq]; exact Nat.eq_of_beq_eq_true hb.2
      obtain ⟨hK, vals, h1, h2, h3, h4⟩ := parts_vals k ps qs (i + 1) hq hk
      refine ⟨hK, vs :: vals, ⟨vs, vals, rfl, hr, h1⟩, fun v hv => ?_, by simp [h3], fun cells hc => ?_⟩
      · rcases List.mem_cons.1 hv with rfl | hv
        · exact ⟨hl, ho⟩
        · exact h2 v hv
      · simp only [List.flatten_cons, List.length_append] at hc ⊢
        simp only [List.map_cons, Instr.fill]
        rw [if_neg (by rw [hv]; simp; omega), hv, foldl_set vs cells.toArray (i * k) (by simpa using (by omega : i * k + vs.length ≤ cells.length))]
        rw [h4 _ (by simp only [List.length_append, List.length_take, List.length_drop, Nat.add_mul]; omega)]
        congr 2
        have e1 : (cells.take (i * k) ++ vs ++ cells.drop (i * k + vs.length)).take ((i + 1) * k) = cells.take (i * k) ++ vs := by
          rw [List.take_append_of_le_length (by simp only [List.length_append, List.length_take, Nat.add_mul]; omega), List.take_of_length_le (by simp only [List.length_append, List.length_take, Nat.add_mul]; omega)]
        have e2 : (cells.take (i * k) ++ vs ++ cells.drop (i * k + vs.length)).drop ((i + 1) * k + vals.flatten.length) = cells.drop (i * k + (vs.length + vals.flatten.length)) := by
          rw [List.drop_append, List.drop_of_length_le (by simp only [List.length_append, List.length_take, Nat.add_mul]; omega), List.nil_append, List.drop_drop]
          congr 1
          simp only [List.length_append, List.length_take, Nat.add_mul]
          omega
        have e1' := e1
        have e2' := e2
        simp only [List.toList_toArray] at *
        rw [e1, e2]
        simp
theorem rowOf_ok : ∀ (els : List (List DV)) (zero : List Value) {K : DV → Prop}, rowOf zero els K → ∃ r, K r ∧ r.isSl = true ∧ r.width = zero.length ∧ r.len = els.length ∧ ∀ i j, i < els.length → j < zero.length → r.cell i j = (els.getD i []).getD j (.v undef) := by
  intro els
  induction els with
  | nil =>
    intro zero K h
    unfold rowOf at h
    split at h <;> first | exact ⟨_, h, rfl, rfl, rfl, fun i j hi => by simp at hi⟩ | simp_all
  | cons x els ih =>
    intro zero K h
    unfold rowOf at h
    split at h
    · cases ‹_ :: _ = []›
    · rename_i k z k' y r he
      cases he
      obtain ⟨r0, h, h1, h2, h3, h4⟩ := ih _ h
      split at h
      · obtain ⟨⟨rfl, rfl⟩, h⟩ := h
        refine ⟨_, h, rfl, rfl, by simp [DV.len] at h3 ⊢; exact h3, fun i j hi hj => ?_⟩
        obtain rfl : j = 0 := by simp at hj; omega
        cases i with
        | zero => rfl
        | succ i => exact h4 i 0 (by simpa using hi) hj
      · exact h.elim
    · cases ‹_ :: _ = []›
    · rename_i z y r he
      cases he
      obtain ⟨r0, h, h1, h2, h3, h4⟩ := ih _ h
      split at h
      · refine ⟨_, h, rfl, rfl, by simp [DV.len] at h3 ⊢; exact h3, fun i j hi hj => ?_⟩
        obtain rfl : j = 0 := by simp at hj; omega
        cases i with
        | zero => rfl
        | succ i => exact h4 i 0 (by simpa using hi) hj
      · exact h.elim
    · cases ‹_ :: _ = []›
    · rename_i z y r he
      cases he
      obtain ⟨r0, h, h1, h2, h3, h4⟩ := ih _ h
      split at h
      · refine ⟨_, h, rfl, rfl, by simp [DV.len] at h3 ⊢; exact h3, fun i j hi hj => ?_⟩
        obtain rfl : j = 0 := by simp at hj; omega
        cases i with
        | zero => rfl
        | succ i => exact h4 i 0 (by simpa using hi) hj
      · exact h.elim
    · exact ⟨_, h, rfl, rfl, rfl, fun i j hi hj => rfl⟩
theorem ereps_cells {ok : Nat → Prop} {k : Nat} : ∀ (els : List (List DV)) {vals : List (List Value)}, ereps w ok els vals → (∀ v ∈ vals, v.length = k ∧ ∀ u ∈ v, one u = true) → els.length = vals.length ∧
    ∀ i j, i < els.length → j < k → ∃ u, vals.flatten[i * k + j]? = some u ∧ one u = true ∧ ((els.getD i []).getD j (.v undef)).rep w ok u
  | [], _, h, _ => by rw [show _ = [] from h]; exact ⟨rfl, fun i j hi => by simp at hi⟩
  | x :: r, _, ⟨v, rest, e, h1, h2⟩, hv => by
    subst e
    obtain ⟨h3, h4⟩ := ereps_cells r h2 (fun v hv' => hv v (List.mem_cons_of_mem _ hv'))
    obtain ⟨hl, ho⟩ := hv v (by simp)
    refine ⟨by simp [h3], fun i j hi hj => ?_⟩
    rw [List.flatten_cons]
    cases i with
    | zero =>
      have hjl : j < v.length := by omega
      refine ⟨v[j], ?_, ho _ (List.getElem_mem hjl), ?_⟩
      · rw [Nat.zero_mul, Nat.zero_add, List.getElem?_append_left hjl, List.getElem?_eq_getElem hjl]
      · exact (dreps_get x h1).2 j _ (List.getElem?_eq_getElem hjl)
    | succ i =>
      obtain ⟨u, hu, h5, h6⟩ := h4 i j (by simpa using hi) hj
      refine ⟨u, ?_, h5, h6⟩
      rw [List.getElem?_append_right (by rw [hl, Nat.add_mul]; omega), hl, ← hu]
      congr 1
      rw [Nat.add_mul]; omega
theorem flatten_len {k : Nat} : ∀ (vals : List (List Value)), (∀ v ∈ vals, v.length = k ∧ ∀ u ∈ v, one u = true) → vals.flatten.length = vals.length * k
  | [], _ => by simp
  | v :: r, h => by
    rw [List.flatten_cons, List.length_append, flatten_len r (fun v hv => h v (List.mem_cons_of_mem _ hv)), (h v (by simp)).1, List.length_cons, Nat.add_mul]
    omega
theorem buildSliceK_ok (h : SRep cx W0 ok0 S0 β0 tm mm β a w) (hc : Cok P cx W0 ok0 S0) {dd : Option Nat} {t : TypeId} {n : Nat} {ps : Array (Nat × Operand)} (hk : buildSliceK cx dd t n ps.toList tm mm K) :
    ∃ v w' tm' mm' β', (Instr.buildSlice t n (ps.map fun (i, x) => (i, a.eval x))).run P w = .ok v w' ∧ Below w.heap.size w w' ∧ SRep cx W0 ok0 S0 β0 tm' mm' β' (a.put dd v) w' ∧ K tm' mm' := by
  unfold buildSliceK at hk
  obtain ⟨e, te, hu, T, hk⟩ := ewK_ok hc hk
  obtain ⟨qs, hq, hk⟩ := partsK_ok h hc _ hk
  obtain ⟨hk, vals, hp, hv, hvl, hfill⟩ := parts_vals te.cells _ _ 0 hq hk
  cases hb : (Nat.beq qs.length n && Nat.ble (n * te.cells) 1000) with
  | false => simp only [hb, cond_false] at hk
  | true =>
  simp only [hb, cond_true] at hk
  simp only [Bool.and_eq_true] at hb
  have hn : qs.length = n := Nat.eq_of_beq_eq_true hb.1
  have hsm := Nat.le_of_ble_eq_true hb.2
  obtain ⟨tm1, mm1, els, h1, ho, he, hel, hk⟩ := elemsK_ok qs h hk hp
  obtain ⟨r, hk, hs, hw, hl, hcell⟩ := rowOf_ok els te.zero hk
  cases dd with
  | none => exact hk.elim
  | some d =>
  obtain ⟨i, z, hi1, hi2, hi3, hi4, hi5⟩ := T.info
  obtain ⟨hev, hec⟩ := ereps_cells (k := te.cells) els he hv
  have hfl := flatten_len vals hv
  have hlen : vals.flatten.length = n * te.cells := by rw [hfl, hvl, hn]
  have hf := hfill ((Array.range (n * te.cells)).map (fun m => (if n * te.cells = 0 then (#[] : Array Value) else z.cells)[m % (if n * te.cells = 0 then (#[] : Array Value) else z.cells).size]!)).toList (by simp [hlen])
  have hrun : (Instr.buildSlice t n (ps.map fun (i, x) => (i, a.eval x))).run P w = .ok (.slice (some ⟨w.heap.size, 0, none⟩) n n) (w.alloc (.cells vals.flatten.toArray e)) := by
    have hf2 : Instr.fill (fun i => some (i * te.cells, te.cells)) ((Array.range (n * te.cells)).map (fun m => (if n * te.cells = 0 then (#[] : Array Value) else z.cells)[m % (if n * te.cells = 0 then (#[] : Array Value) else z.cells).size]!)) (ps.map fun (i, x) => (i, a.eval x)).toList = some vals.flatten.toArray := by
      rw [Array.toArray_toList] at hf
      rw [Array.toList_map, hf]
      congr 2
      simp only [Nat.zero_mul, Nat.zero_add, List.take_zero, List.nil_append, hlen]
      rw [List.drop_of_length_le (by simp), List.append_nil]
    by_cases h0 : n * te.cells = 0
    · rw [if_pos h0] at hf2
      simp [Instr.buildSlice, run_underlying hu, run_size hi1, hi2, h0, newRow]
      rw [h0] at hf2
      simp at hf2
      simp [hf2]
    · rw [if_neg h0] at hf2
      simp [Instr.buildSlice, run_underlying hu, run_size hi1, hi2, h0, show ¬ (16777216 < n * te.cells) by omega, zeroValue, typeInfo, hi1, hi4, newRow]
      simp at hf2
      simp [hf2]
  obtain ⟨tm', mm', β', h', hk'⟩ := newK_ok h1 (v := .slice (some ⟨w.heap.size, 0, none⟩) n n) hk vals.flatten e n
    ⟨rfl, hs, by rw [hw, T.len, hlen], by rw [hl, hel, hn]; exact Nat.le_refl _, fun i' hi' j hj => by
      rw [hl] at hi'
      rw [hw] at hj ⊢
      rw [hcell i' j hi' hj, T.len]
      rw [T.len] at hj
      exact hec i' j hi' hj⟩ (fun w' ok' β' hb => by
        show Ent.own _ _ _
        unfold Ent.own
        rw [hb]
        exact ⟨rfl, Nat.le_refl _⟩)
  exact ⟨_, _, tm', mm', β', hrun, below_alloc _ _, h', hk'⟩
end
end Go.Proofs.YtgdcefohfebleaaDoor.V
/- What a call does; keys told otherwise. -/
set_option linter.unusedVariables false
set_option linter.unusedSimpArgs false
set_option linter.unusedSectionVars false
namespace Go.Proofs.YtgdcefohfebleaaDoor.V
open Go Go.RowKit

/-- The part of the state that speaks of blocks. -/
structure MS (W0 : World) (ok0 S0 : Nat → Prop) (β0 : Nat → Ent) (mm : MM) (β : Nat → Ent) (w : World) : Prop where
  me : ∀ k, BlkRep w (okB W0 ok0 S0 mm β w) β k (lkM k mm)
  inj : ∀ j k, live mm β j → live mm β k → (β j).blk = (β k).blk → j = k
  ow : ∀ k, live mm β k → (β k).blk < w.heap.size ∧ (W0.heap.size ≤ (β k).blk ∨ S0 (β k).blk)
  fr : Fr W0 S0 w
  fx : ∀ k, hk ≤ k → β k = β0 k
theorem SRep.ms {cx : Cx} {W0 : World} {ok0 S0 : Nat → Prop} {β0 : Nat → Ent} {tm : TM} {mm : MM} {β : Nat → Ent} {a : Act} {w : World} (h : SRep cx W0 ok0 S0 β0 tm mm β a w) : MS W0 ok0 S0 β0 mm β w :=
  ⟨h.me, h.inj, h.ow, h.fr, h.fx⟩
/-- The package's variables hold what they are told to hold. -/
def GlobOk (gl : Nat → Option (Nat × (Nat → DV))) (W : World) (ok : Nat → Prop) : Prop :=
  ∀ g m f, gl g = some (m, f) → g < W.heap.size ∧ ok g ∧ ∀ j, j < m → ∃ x, f j = .v x ∧ one x = true ∧ W.cell? ((⟨g, 0, none⟩ : Addr).add j) = some x
def S0of (mm : MM) (β : Nat → Ent) (b : Nat) : Prop := ∃ k, live mm β k ∧ (β k).blk = b
/-- A call of g with what args say, on the blocks of mm0, comes to post. -/
def Does (P : Program) (gl : Nat → Option (Nat × (Nat → DV))) (g : FuncId) (args : List AV) (mm0 : MM) (post : MM → AV → Prop) : Prop :=
  ∀ (W : World) (β : Nat → Ent) (ok0 : Nat → Prop) (vs : List Value), GlobOk gl W (fun b => ok0 b ∧ ¬ S0of mm0 β b) → MS W ok0 (S0of mm0 β) β mm0 β W →
    AV.reps W (okB W ok0 (S0of mm0 β) mm0 β W) β args vs →
    Calls P g vs.toArray W fun e w' => match e with
      | .returned v => ∃ mm' β' r, post mm' r ∧ MS W ok0 (S0of mm0 β) β mm' β' w' ∧ r.rep w' (okB W ok0 (S0of mm0 β) mm' β' w') β' v
      | _ => False
def Meets (P : Program) (gl : Nat → Option (Nat × (Nat → DV))) (g : FuncId) : SpecE → Prop
  | .lend C => ∀ args K, C args K → Does P gl g args [] fun _ r => scal r ∧ K r
  | .data C => ∀ args K, C args K → Does P gl g args [] K
  | .heap C => ∀ args mm0 K, C args mm0 K → Does P gl g args mm0 K
  | .view C => ∀ args K, C args K → Does P gl g args [] fun _ r => K r
  | .mix C => ∀ args mm0 K, C args mm0 K → Does P gl g args mm0 K

/-! ### keys told otherwise -/
def rn (k : Nat) : RN → Option Nat
  | [] => none
  | (u, c) :: r => if k = u then some c else rn k r
theorem rnK_ok {k : Nat} {K : Nat → Prop} : ∀ {f : RN}, rnK k f K → ∃ c, rn k f = some c ∧ K c
  | [], h => h.elim
  | (u, c) :: r, h => by
    simp only [rnK] at h
    simp only [rn]
    by_cases e : k = u
    · subst e; simp only [beq_self, cond_true] at h; exact ⟨c, by simp, h⟩
    · simp only [beq_ne e, cond_false] at h; rw [if_neg e]; exact rnK_ok h
section
variable {w : World} {ok : Nat → Prop} {β β' : Nat → Ent} {f : RN}
mutual
theorem renK_ok (hb : ∀ k c, rn k f = some c → β' c = β k) : ∀ (x : AV) (K : AV → Prop), AV.renK f x K → ∃ x', K x' ∧ (∀ v, x.rep w ok β v → x'.rep w ok β' v) ∧ ∀ c, x'.refs c → ∃ k, rn k f = some c
  | .top, K, h => ⟨_, h, fun v hv => hv, fun c h => h.elim⟩
  | .d x, K, h => ⟨_, h, fun v hv => hv, fun c h => h.elim⟩
  | .ep m g, K, h => ⟨_, h, fun v hv => hv, fun c h => h.elim⟩
  | .full x, K, h => ⟨_, h, fun v hv => hv, fun c h => h.elim⟩
  | .bp b j, K, h => by
    obtain ⟨c, hc, h⟩ := rnK_ok h
    exact ⟨_, h, fun v hv => by simp only [AV.rep] at hv ⊢; rw [hb _ _ hc]; exact hv, fun c' h' => by cases h'; exact ⟨b, hc⟩⟩
  | .rp b k i j, K, h => by
    obtain ⟨c, hc, h⟩ := rnK_ok h
    exact ⟨_, h, fun v hv => by simp only [AV.rep] at hv ⊢; rw [hb _ _ hc]; exact hv, fun c' h' => by cases h'; exact ⟨b, hc⟩⟩
  | .own b n, K, h => by
    obtain ⟨c, hc, h⟩ := rnK_ok h
    exact ⟨_, h, fun v hv => by simp only [AV.rep] at hv ⊢; rw [hb _ _ hc]; exact hv, fun c' h' => by cases h'; exact ⟨b, hc⟩⟩
  | .seg b k o n, K, h => by
    obtain ⟨c, hc, h⟩ := rnK_ok h
    exact ⟨_, h, fun v hv => by simp only [AV.rep] at hv ⊢; rw [hb _ _ hc]; exact hv, fun c' h' => by cases h'; exact ⟨b, hc⟩⟩
  | .agg l, K, h => by
    obtain ⟨l', hk, hl, hr⟩ := rensK_ok hb l _ h
    exact ⟨_, hk, fun v ⟨vs, e, h1, h2⟩ => ⟨vs, e, h1, hl vs h2⟩, hr⟩
  | .fn g l, K, h => by
    obtain ⟨l', hk, hl, hr⟩ := rensK_ok hb l _ h
    exact ⟨_, hk, fun v ⟨vs, e, h2⟩ => ⟨vs, e, hl vs h2⟩, hr⟩
  | .clo i g l, K, h => by
    obtain ⟨l', hk, hl, hr⟩ := rensK_ok hb l _ h
    exact ⟨_, hk, fun v ⟨vs, e, h2⟩ => ⟨vs, e, hl vs h2⟩, hr⟩
  | .yl k T l, K, h => by
    obtain ⟨c, hc, h⟩ := rnK_ok h
    obtain ⟨l', hk, hl, hr⟩ := rensK_ok hb l _ h
    exact ⟨_, hk, fun v ⟨e, h2⟩ => ⟨by rw [hb _ _ hc]; exact e, hl T h2⟩, fun c' h' => h'.elim (fun h' => by cases h'; exact ⟨k, hc⟩) (hr c')⟩
  | .tup l, K, h => by
    obtain ⟨l', hk, hl, hr⟩ := rensK_ok hb l _ h
    exact ⟨_, hk, fun v ⟨vs, e, h2⟩ => ⟨vs, e, hl vs h2⟩, hr⟩
theorem rensK_ok (hb : ∀ k c, rn k f = some c → β' c = β k) : ∀ (x : List AV) (K : List AV → Prop), AV.rensK f x K → ∃ x', K x' ∧ (∀ vs, AV.reps w ok β x vs → AV.reps w ok β' x' vs) ∧ ∀ c, AV.refsL c x' → ∃ k, rn k f = some c
  | [], K, h => ⟨[], h, fun vs hv => hv, fun c h => h.elim⟩
  | a :: l, K, h => by
    obtain ⟨a', h1, ha, hra⟩ := renK_ok hb a _ h
    obtain ⟨l', hk, hl, hrl⟩ := rensK_ok hb l _ h1
    exact ⟨_, hk, fun vs ⟨v, rest, e, h2, h3⟩ => ⟨v, rest, e, ha v h2, hl rest h3⟩, fun c hc => hc.elim (hra c) (hrl c)⟩
end
/-- A block told under another key. -/
theorem blk_renK {k c : Nat} (hb : ∀ k c, rn k f = some c → β' c = β k) (hc : β' c = β k) {x : ABlk} {K : ABlk → Prop} (h : ABlk.renK f x K) : ∃ x', K x' ∧ (BlkRep w ok β k x → BlkRep w ok β' c x') ∧ (x'.lives (β' c) ↔ x.lives (β k)) ∧
    (∀ cs, x' = .box cs → ∀ b, AV.refsL b cs → ∃ k, rn k f = some b) := by
  unfold ABlk.renK at h
  split at h
  · exact ⟨_, h, fun _ => trivial, Iff.rfl, fun cs e => by cases e⟩
  · obtain ⟨cs', hk, hl, hr⟩ := rensK_ok (w := w) (ok := ok) hb _ _ h
    refine ⟨_, hk, fun ⟨vs, e, h1, h2, h3⟩ => ⟨vs, e, by rw [hc]; exact h1, hl vs h2, h3⟩, Iff.rfl, fun cs e => by cases e; exact hr⟩
  · refine ⟨_, h, fun h => ?_, by simp [ABlk.lives, hc], fun cs e => by cases e⟩
    simpa only [BlkRep, hc] using h
  · refine ⟨_, h, fun h => ?_, by simp [ABlk.lives], fun cs e => by cases e⟩
    simpa only [BlkRep, hc] using h
end
end Go.Proofs.YtgdcefohfebleaaDoor.V
