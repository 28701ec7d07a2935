/-
  Proved here, step by step for the theorem UW: Calls that work on blocks handed in, or make blocks.; Calls that work on blocks handed in, or make blocks: the state behind them.; Calls.
  Conditions: those that stand in each theorem.
-/
import Derived.RangeFuncSeq
import Derived.Test.YtgdcefohfebleaaDoorM04
/- Calls that work on blocks handed in, or make blocks. -/
set_option linter.unusedVariables false
set_option linter.unusedSimpArgs false
set_option linter.unusedSectionVars false
namespace Go.Proofs.YtgdcefohfebleaaDoor.V
open Go Go.RowKit

/-! ### lists -/
theorem inL_iff (t : Nat) : ∀ l : List Nat, inL t l = true ↔ t ∈ l
  | [] => by simp [inL]
  | u :: r => by
    simp only [inL]
    by_cases h : t = u
    · subst h; simp
    · simp [beq_ne h, inL_iff t r, h]
theorem nodupB_iff : ∀ l : List Nat, nodupB l = true → l.Nodup
  | [], _ => List.nodup_nil
  | c :: r, h => by
    simp only [nodupB] at h
    cases hi : inL c r with
    | true => rw [hi] at h; cases h
    | false =>
      rw [hi] at h
      exact List.nodup_cons.2 ⟨fun hm => (by rw [(inL_iff c r).2 hm] at hi; cases hi), nodupB_iff r h⟩
theorem allLt_iff (n : Nat) : ∀ l : List Nat, allLt n l = true → ∀ c ∈ l, c < n
  | [], _, c, h => by cases h
  | d :: r, h, c, hc => by
    simp only [allLt] at h
    cases hb : Nat.blt d n with
    | false => rw [hb] at h; cases h
    | true =>
      rw [hb] at h
      rcases List.mem_cons.1 hc with rfl | hc
      · rwa [Nat.blt_eq] at hb
      · exact allLt_iff n r h c hc
theorem anyIn_iff (l : List Nat) : ∀ m : List Nat, anyIn l m = false → ∀ c ∈ m, c ∉ l
  | [], _, c, h => by cases h
  | d :: r, h, c, hc => by
    simp only [anyIn] at h
    cases hb : inL d l with
    | true => rw [hb] at h; cases h
    | false =>
      rw [hb] at h
      rcases List.mem_cons.1 hc with rfl | hc
      · intro hm; rw [(inL_iff c l).2 hm] at hb; cases hb
      · exact anyIn_iff l r h c hc
theorem fstL_eq : ∀ f : RN, fstL f = f.map Prod.fst
  | [] => rfl
  | (a, b) :: r => by simp [fstL, fstL_eq r]
theorem sndL_eq : ∀ f : RN, sndL f = f.map Prod.snd
  | [] => rfl
  | (a, b) :: r => by simp [sndL, sndL_eq r]
theorem rn_mem {k c : Nat} : ∀ {f : RN}, rn k f = some c → (k, c) ∈ f
  | [], h => by cases h
  | (u, d) :: r, h => by
    simp only [rn] at h
    by_cases e : k = u
    · rw [if_pos e] at h; cases h; subst e; simp
    · rw [if_neg e] at h; exact List.mem_cons_of_mem _ (rn_mem h)
theorem rn_of {k c : Nat} : ∀ {f : RN}, (f.map Prod.fst).Nodup → (k, c) ∈ f → rn k f = some c
  | [], _, h => by cases h
  | (u, d) :: r, hn, h => by
    simp only [rn]
    rw [List.map_cons, List.nodup_cons] at hn
    rcases List.mem_cons.1 h with h2 | h2
    · cases h2; simp
    · rw [if_neg, rn_of hn.2 h2]
      intro e
      exact hn.1 (List.mem_map.2 ⟨(k, c), h2, e⟩)
theorem zipK_ok : ∀ (ks hs : List Nat) {K : RN → RN → Prop}, zipK ks hs K → ∃ f g, K f g ∧ f.map Prod.fst = ks ∧ g.map Prod.snd = ks ∧ (∀ c h, (c, h) ∈ f ↔ (h, c) ∈ g) ∧ ∃ n, f.map Prod.snd = hs.take n ∧ g.map Prod.fst = hs.take n
  | [], hs, K, h => ⟨[], [], h, rfl, rfl, by simp, 0, by simp, by simp⟩
  | c :: r, [], K, h => h.elim
  | c :: r, h0 :: hs, K, h => by
    obtain ⟨f, g, hk, h1, h1', h2, n, h3, h4⟩ := zipK_ok r hs h
    refine ⟨_, _, hk, by simp [h1], by simp [h1'], fun c h => ?_, n + 1, by simp [h3], by simp [h4]⟩
    simp only [List.mem_cons, Prod.mk.injEq, h2]
    constructor
    · rintro (⟨rfl, rfl⟩ | h)
      · exact .inl ⟨rfl, rfl⟩
      · exact .inr h
    · rintro (⟨rfl, rfl⟩ | h)
      · exact .inl ⟨rfl, rfl⟩
      · exact .inr h
theorem numK_ok : ∀ (l : List Nat) (i : Nat) {K : RN → Prop}, numK i l K → ∃ nw, K nw ∧ nw.map Prod.snd = l ∧ (∀ j c, (j, c) ∈ nw → i ≤ j ∧ j < hk) ∧ (nw.map Prod.fst).Nodup
  | [], i, K, h => by
    have : K [] := by unfold numK at h; exact h
    exact ⟨[], this, rfl, by simp, List.nodup_nil⟩
  | c :: r, i, K, h => by
    have step : ∀ (i : Nat), i < hk → (numK (i + 1) r fun l => K ((i, c) :: l)) → ∃ nw, K nw ∧ nw.map Prod.snd = c :: r ∧ (∀ j c, (j, c) ∈ nw → i ≤ j ∧ j < hk) ∧ (nw.map Prod.fst).Nodup := by
      intro i hi h
      obtain ⟨nw, h1, h2, h3, h4⟩ := numK_ok r (i + 1) h
      refine ⟨_, h1, by simp [h2], fun j d hj => ?_, ?_⟩
      · rcases List.mem_cons.1 hj with e | e
        · cases e; exact ⟨Nat.le_refl _, hi⟩
        · have := h3 j d e; exact ⟨by omega, this.2⟩
      · rw [List.map_cons, List.nodup_cons]
        refine ⟨fun hm => ?_, h4⟩
        obtain ⟨⟨j, d⟩, hm, e⟩ := List.mem_map.1 hm
        have := (h3 j d hm).1
        simp only at e
        omega
    unfold numK at h
    split at h
    · rename_i e; cases e
    · rename_i e; cases e; exact step 0 (by decide) h
    · rename_i e; cases e; exact step 1 (by decide) h
    · rename_i e; cases e; exact step 2 (by decide) h
    · rename_i e; cases e; exact step 3 (by decide) h
    · exact h.elim
theorem catR_ok : ∀ (f g : RN) {K : RN → Prop}, catR f g K → K (f ++ g)
  | [], g, K, h => h
  | x :: r, g, K, h => catR_ok r g (K := fun l => K (x :: l)) h
mutual
theorem keysK_ok : ∀ (x : AV) (ks : List Nat) (K : List Nat → Prop), AV.keysK x ks K → ∃ ks', K ks'
  | .top, _, _, h => ⟨_, h⟩
  | .d _, _, _, h => ⟨_, h⟩
  | .ep _ _, _, _, h => ⟨_, h⟩
  | .full _, _, _, h => ⟨_, h⟩
  | .bp c _, ks, K, h => by simp only [AV.keysK, addKey] at h; cases hb : inL c ks <;> rw [hb] at h <;> exact ⟨_, h⟩
  | .rp c _ _ _, ks, K, h => by simp only [AV.keysK, addKey] at h; cases hb : inL c ks <;> rw [hb] at h <;> exact ⟨_, h⟩
  | .own c _, ks, K, h => by simp only [AV.keysK, addKey] at h; cases hb : inL c ks <;> rw [hb] at h <;> exact ⟨_, h⟩
  | .seg c _ _ _, ks, K, h => by simp only [AV.keysK, addKey] at h; cases hb : inL c ks <;> rw [hb] at h <;> exact ⟨_, h⟩
  | .agg l, ks, K, h => keysLK_ok l ks K h
  | .fn _ l, ks, K, h => keysLK_ok l ks K h
  | .clo _ _ l, ks, K, h => keysLK_ok l ks K h
  | .yl c T l, ks, K, h => by
    simp only [AV.keysK, addKey] at h; cases hb : inL c ks <;> rw [hb] at h <;> exact keysLK_ok l _ K h
  | .tup l, ks, K, h => keysLK_ok l ks K h
theorem keysLK_ok : ∀ (x : List AV) (ks : List Nat) (K : List Nat → Prop), AV.keysLK x ks K → ∃ ks', K ks'
  | [], _, _, h => ⟨_, h⟩
  | a :: l, ks, K, h => by
    obtain ⟨ks1, h1⟩ := keysK_ok a ks _ h
    exact keysLK_ok l ks1 K h1
end
theorem boxKeys_ok (mm : MM) : ∀ (l ks : List Nat) (K : List Nat → Prop), boxKeys mm l ks K → ∃ ks', K ks'
  | [], _, _, h => ⟨_, h⟩
  | c :: r, ks, K, h => by
    simp only [boxKeys, getK_eq] at h
    split at h
    · obtain ⟨ks1, h1⟩ := keysLK_ok _ ks _ h
      exact boxKeys_ok mm r ks1 K h1
    · exact boxKeys_ok mm r ks K h

/-- What a block told under another key keeps. -/
structure Tr (w : World) (ok : Nat → Prop) (β β' : Nat → Ent) (f : RN) (k c : Nat) (x x' : ABlk) : Prop where
  rep : BlkRep w ok β k x → BlkRep w ok β' c x'
  lives : x'.lives (β' c) ↔ x.lives (β k)
  refs : ∀ cs, x' = .box cs → ∀ b, AV.refsL b cs → ∃ k, rn k f = some b

section
variable {w : World} {ok : Nat → Prop} {β β' : Nat → Ent} {f g : RN} {mm mm' : MM}
theorem handK_ok (hb : ∀ k c, rn k f = some c → β' c = β k) : ∀ (r : RN) (hr : ∀ c h, (c, h) ∈ r → β' h = β c) (hn : (r.map Prod.snd).Nodup) {K : MM → Prop}, handK f mm r K →
    ∃ m, K m ∧ (∀ c h, (c, h) ∈ r → Tr w ok β β' f c h (lkM c mm) (lkM h m)) ∧ ∀ h, (∀ c, (c, h) ∉ r) → lkM h m = .gone
  | [], _, _, K, h => ⟨[], h, fun c h hm => (by cases hm), fun h _ => rfl⟩
  | (c0, h0) :: r, hr, hn, K, h => by
    simp only [handK, getK_eq] at h
    rw [List.map_cons, List.nodup_cons] at hn
    obtain ⟨x', h1, h2, h3, h4⟩ := blk_renK (w := w) (ok := ok) (k := c0) (c := h0) hb (hr c0 h0 (by simp)) h
    obtain ⟨m, hk, h5, h6⟩ := handK_ok hb r (fun c h hm => hr c h (List.mem_cons_of_mem _ hm)) hn.2 h1
    refine ⟨_, hk, fun c h hm => ?_, fun h hm => ?_⟩
    · rw [lkM_cons]
      rcases List.mem_cons.1 hm with e | e
      · cases e; rw [if_pos rfl]; exact ⟨h2, h3, h4⟩
      · rw [if_neg]
        · exact h5 c h e
        · intro e2; subst e2; exact hn.1 (List.mem_map.2 ⟨_, e, rfl⟩)
    · rw [lkM_cons, if_neg (fun e => hm c0 (by simp [e]))]
      exact h6 h (fun c hc => hm c (List.mem_cons_of_mem _ hc))
theorem backK_ok (hb : ∀ k c, rn k g = some c → β' c = β k) : ∀ (r : RN) (hr : ∀ c h, (c, h) ∈ r → β' c = β h) (hn : (r.map Prod.fst).Nodup) (m : MM) {K : MM → Prop}, backK g mm' r m K →
    ∃ m', K m' ∧ (∀ c h, (c, h) ∈ r → Tr w ok β β' g h c (lkM h mm') (lkM c m')) ∧ ∀ c, (∀ h, (c, h) ∉ r) → lkM c m' = lkM c m
  | [], _, _, m, K, h => ⟨m, h, fun c h hm => (by cases hm), fun h _ => rfl⟩
  | (c0, h0) :: r, hr, hn, m, K, h => by
    simp only [backK, getK_eq] at h
    rw [List.map_cons, List.nodup_cons] at hn
    obtain ⟨x', h1, h2, h3, h4⟩ := blk_renK (w := w) (ok := ok) (k := h0) (c := c0) hb (hr c0 h0 (by simp)) h
    rw [setK_eq] at h1
    obtain ⟨m', hk, h5, h6⟩ := backK_ok hb r (fun c h hm => hr c h (List.mem_cons_of_mem _ hm)) hn.2 _ h1
    refine ⟨_, hk, fun c h hm => ?_, fun c hm => ?_⟩
    · rcases List.mem_cons.1 hm with e | e
      · cases e
        rw [h6 _ (fun h hm => hn.1 (List.mem_map.2 ⟨_, hm, rfl⟩)), lkM_set, if_pos rfl]; exact ⟨h2, h3, h4⟩
      · exact h5 c h e
    · rw [h6 c (fun h hc => hm h (List.mem_cons_of_mem _ hc)), lkM_set, if_neg (fun e => hm h0 (by simp [e]))]
theorem newsK_ok (hb : ∀ k c, rn k g = some c → β' c = β k) : ∀ (r : RN) (hr : ∀ i c, (i, c) ∈ r → β' c = β i) (hn : (r.map Prod.snd).Nodup) (tm : TM) (m : MM) {K : TM → MM → Prop}, newsK g mm' r tm m K →
    (∀ i c, (i, c) ∈ r → lkM c m = .gone) →
    ∃ m', K tm m' ∧ (∀ i c, (i, c) ∈ r → Tr w ok β β' g i c (lkM i mm') (lkM c m')) ∧ ∀ c, (∀ i, (i, c) ∉ r) → lkM c m' = lkM c m
  | [], _, _, tm, m, K, h, _ => ⟨m, h, fun c h hm => (by cases hm), fun h _ => rfl⟩
  | (i0, c0) :: r, hr, hn, tm, m, K, h, hg => by
    simp only [newsK] at h
    rw [List.map_cons, List.nodup_cons] at hn
    obtain ⟨m1, h, h5, h6⟩ := newsK_ok hb r (fun c h hm => hr c h (List.mem_cons_of_mem _ hm)) hn.2 tm m h (fun i c hm => hg i c (List.mem_cons_of_mem _ hm))
    rw [getK_eq] at h
    have hc0 : lkM c0 m1 = .gone := by rw [h6 c0 (fun i hm => hn.1 (List.mem_map.2 ⟨_, hm, rfl⟩))]; exact hg i0 c0 (by simp)
    split at h
    · rename_i hq
      refine ⟨_, h, fun i c hm => ?_, fun c hm => h6 c (fun i hc => hm i (List.mem_cons_of_mem _ hc))⟩
      rcases List.mem_cons.1 hm with e | e
      · cases e
        rw [hc0, hq]
        exact ⟨fun _ => trivial, Iff.rfl, fun cs e => (by cases e)⟩
      · exact h5 i c e
    · obtain ⟨x', h1, h2, h3, h4⟩ := blk_renK (w := w) (ok := ok) (k := i0) (c := c0) hb (hr i0 c0 (by simp)) h
      rw [setK_eq] at h1
      refine ⟨_, h1, fun i c hm => ?_, fun c hm => ?_⟩
      · rw [lkM_set]
        rcases List.mem_cons.1 hm with e | e
        · cases e; rw [if_pos rfl]; exact ⟨h2, h3, h4⟩
        · rw [if_neg]
          · exact h5 i c e
          · intro e2; subst e2; exact hn.1 (List.mem_map.2 ⟨_, e, rfl⟩)
      · rw [lkM_set, if_neg (fun e => hm i0 (by simp [e]))]
        exact h6 c (fun i hc => hm i (List.mem_cons_of_mem _ hc))
end

mutual
theorem AV.kill_sub (b : Nat) : ∀ (a : AV) (c : Nat), (a.kill b).refs c → a.refs c
  | .top, _, h => h.elim
  | .d _, _, h => h.elim
  | .ep _ _, _, h => h.elim
  | .full _, _, h => h.elim
  | .bp c j, c', h => by simp only [AV.kill] at h; cases hb : Nat.beq b c <;> simp only [hb, cond_true, cond_false, AV.refs] at h; exact h
  | .rp c _ _ _, c', h => by simp only [AV.kill] at h; cases hb : Nat.beq b c <;> simp only [hb, cond_true, cond_false, AV.refs] at h; exact h
  | .own c _, c', h => by simp only [AV.kill] at h; cases hb : Nat.beq b c <;> simp only [hb, cond_true, cond_false, AV.refs] at h; exact h
  | .seg c _ _ _, c', h => by simp only [AV.kill] at h; cases hb : Nat.beq b c <;> simp only [hb, cond_true, cond_false, AV.refs] at h; exact h
  | .agg l, c', h => AV.kills_sub b l c' h
  | .fn _ l, c', h => AV.kills_sub b l c' h
  | .clo _ _ l, c', h => AV.kills_sub b l c' h
  | .yl k T l, c', h => by
      simp only [AV.kill] at h; cases hb : Nat.beq b k <;> simp only [hb, cond_true, cond_false, AV.refs] at h
      exact h.imp id (AV.kills_sub b l c')
  | .tup l, c', h => AV.kills_sub b l c' h
theorem AV.kills_sub (b : Nat) : ∀ (l : List AV) (c : Nat), AV.refsL c (AV.kills b l) → AV.refsL c l
  | [], _, h => h.elim
  | a :: r, c, .inl h => .inl (AV.kill_sub b a c h)
  | a :: r, c, .inr h => .inr (AV.kills_sub b r c h)
end
section
variable {P : Program} {cx : Cx} {W0 : World} {ok0 S0 : Nat → Prop} {β0 : Nat → Ent} {tm : TM} {mm : MM} {β : Nat → Ent} {a : Act} {w : World} {o : Oper} {Q : Exit → Act → World → Prop} {K : TM → MM → Prop}
/-- A block is no longer told. -/
theorem SRep.drop (h : SRep cx W0 ok0 S0 β0 tm mm β a w) (d : Nat) : SRep cx W0 ok0 S0 β0 tm (setM d .gone mm) β a w ∧ ∀ b, okB W0 ok0 S0 mm β w b → okB W0 ok0 S0 (setM d .gone mm) β w b := by
  have hlv : ∀ k, live (setM d .gone mm) β k → k ≠ d ∧ live mm β k := fun k hk => by
    rw [live_set] at hk
    split at hk
    · exact hk.elim
    · rename_i hne; exact ⟨hne, hk⟩
  have hok : ∀ b, okB W0 ok0 S0 mm β w b → okB W0 ok0 S0 (setM d .gone mm) β w b := fun b hb => ⟨hb.1, hb.2.1, fun k hk => hb.2.2 k (hlv k hk).2⟩
  refine ⟨?_, hok⟩
  exact {
    nt := h.nt
    df := h.df
    tm := fun t => AV.rep_mono (fun _ _ => rfl) hok _ (fun _ _ => rfl) (h.tm t)
    me := fun k => by
      rw [lkM_set]
      split
      · trivial
      · exact BlkRep.mono _ (h.me k) (fun _ _ => rfl) hok rfl (fun _ => rfl) (fun _ _ _ _ => rfl)
    inj := fun j k hj hk => h.inj j k (hlv j hj).2 (hlv k hk).2
    ow := fun k hk => h.ow k (hlv k hk).2
    fr := h.fr
    fx := h.fx }
/-- no more is told than was -/
def Less (x y : ABlk) : Prop := x = .gone ∨ ((∃ r, x = .lp r ∧ y = .lp r) ∨ ∃ e r, x = .row e r ∧ y = .row e r) ∨ ∃ cs cs0, x = .box cs ∧ y = .box cs0 ∧ ∀ c, AV.refsL c cs → AV.refsL c cs0
theorem Less.rfl' (x : ABlk) : Less x x := by
  cases x with
  | gone => exact .inl rfl
  | lp r => exact .inr (.inl (.inl ⟨r, rfl, rfl⟩))
  | row e r => exact .inr (.inl (.inr ⟨e, r, rfl, rfl⟩))
  | box cs => exact .inr (.inr ⟨cs, cs, rfl, rfl, fun _ h => h⟩)
theorem Less.trans {x y z : ABlk} (h : Less x y) (h' : Less y z) : Less x z := by
  rcases h with h | (⟨r, rfl, rfl⟩ | ⟨e, r, rfl, rfl⟩) | ⟨cs, cs0, rfl, rfl, hs⟩
  · exact .inl h
  · rcases h' with h' | (⟨r', e1, rfl⟩ | ⟨e', r', e1, rfl⟩) | ⟨cs, cs0, e1, _⟩
    · cases h'
    · cases e1; exact .inr (.inl (.inl ⟨_, rfl, rfl⟩))
    · cases e1
    · cases e1
  · rcases h' with h' | (⟨r', e1, rfl⟩ | ⟨e', r', e1, rfl⟩) | ⟨cs, cs0, e1, _⟩
    · cases h'
    · cases e1
    · cases e1; exact .inr (.inl (.inr ⟨_, _, rfl, rfl⟩))
    · cases e1
  · rcases h' with h' | (⟨r', e1, rfl⟩ | ⟨e', r', e1, rfl⟩) | ⟨cs', cs0', e1, rfl, hs'⟩
    · cases h'
    · cases e1
    · cases e1
    · cases e1; exact .inr (.inr ⟨_, _, rfl, rfl, fun c hc => hs' c (hs c hc)⟩)
theorem Less.kill (b : Nat) (x : ABlk) : Less (x.kill b) x := by
  cases x with
  | gone => exact .inl rfl
  | lp r => exact .inr (.inl (.inl ⟨r, rfl, rfl⟩))
  | row e r => exact .inr (.inl (.inr ⟨e, r, rfl, rfl⟩))
  | box cs => exact .inr (.inr ⟨_, cs, rfl, rfl, fun c h => AV.kills_sub b cs c h⟩)
theorem Less.lives {x y : ABlk} (h : Less x y) {e : Ent} (hl : x.lives e) : y.lives e := by
  rcases h with rfl | (⟨_, rfl, rfl⟩ | ⟨_, _, rfl, rfl⟩) | ⟨_, _, rfl, rfl, _⟩
  · exact hl.elim
  · exact hl
  · exact hl
  · exact hl
theorem killsL_ok : ∀ (l : List Nat) {tm : TM} {mm : MM} (h : SRep cx W0 ok0 S0 β0 tm mm β a w) {K : TM → MM → Prop}, killsL l tm mm K →
    ∃ tm' mm', K tm' mm' ∧ SRep cx W0 ok0 S0 β0 tm' mm' β a w ∧ (∀ b, okB W0 ok0 S0 mm β w b → okB W0 ok0 S0 mm' β w b) ∧ (∀ t c, (lkT t tm').refs c → c ∉ l ∧ (lkT t tm).refs c) ∧ (∀ k cs, lkM k mm' = .box cs → ∀ c, AV.refsL c cs → c ∉ l) ∧
      (∀ k ∈ l, lkM k mm' = .gone) ∧ (∀ k, Less (lkM k mm') (lkM k mm)) ∧ ∀ k, k ∉ l → live mm β k → live mm' β k := by
  intro l
  induction l with
  | nil => exact fun {tm mm} h {K} hk => ⟨tm, mm, hk, h, fun _ h => h, fun _ c h => ⟨fun hm => (by cases hm), h⟩, fun _ _ _ c _ hm => (by cases hm), fun k hm => (by cases hm), fun k => Less.rfl' _, fun k _ h => h⟩
  | cons d r ih =>
    intro tm mm h K hk
    simp only [killsL, killT_eq, killM_eq, setK_eq] at hk
    have h1 := h.kill d
    obtain ⟨h2, ho2⟩ := h1.drop d
    have hn := noRef_kill d tm mm
    obtain ⟨tm', mm', hK, h3, ho3, hr1, hr2, hg, hl, hlv⟩ := ih h2 hk
    have ho : ∀ b, okB W0 ok0 S0 mm β w b → okB W0 ok0 S0 mm' β w b := fun b hb => ho3 b (ho2 b ((okB_kill d b).2 hb))
    have hd : lkM d mm' = .gone := by
      have := hl d
      rw [lkM_set, if_pos rfl] at this
      rcases this with h | (⟨_, _, h⟩ | ⟨_, _, _, h⟩) | ⟨_, _, _, h, _⟩
      · exact h
      · cases h
      · cases h
      · cases h
    have hless : ∀ k, k ≠ d → Less (lkM k mm') ((lkM k mm).kill d) := fun k hk => by
      have := hl k
      rwa [lkM_set, if_neg hk, lkM_kill] at this
    refine ⟨tm', mm', hK, h3, ho, fun t c hc => ⟨fun hm => ?_, ?_⟩, fun k cs hkb c hc hm => ?_, fun k hm => ?_, fun k => ?_, fun k hk hlk => ?_⟩
    · rcases List.mem_cons.1 hm with rfl | hm
      · exact hn.1 t _ (hr1 t _ hc).2 rfl
      · exact (hr1 t c hc).1 hm
    · have := (hr1 t c hc).2
      rw [lkT_kill] at this
      exact AV.kill_sub d _ c this
    · rcases List.mem_cons.1 hm with rfl | hm
      · have hkd : k ≠ c := fun e => by subst e; rw [hd] at hkb; cases hkb
        rcases hless k hkd with e | (⟨_, e, _⟩ | ⟨_, _, e, _⟩) | ⟨cs', cs0, e, e2, hsub⟩
        · rw [hkb] at e; cases e
        · rw [hkb] at e; cases e
        · rw [hkb] at e; cases e
        · rw [hkb] at e; cases e
          cases hq : lkM k mm with
          | gone => rw [hq] at e2; cases e2
          | lp r => rw [hq] at e2; cases e2
          | row e y => rw [hq] at e2; cases e2
          | box ds => rw [hq] at e2; cases e2; exact AV.kills_refs c ds _ (hsub c hc) rfl
      · exact hr2 k cs hkb c hc hm
    · rcases List.mem_cons.1 hm with rfl | hm
      · exact hd
      · exact hg k hm
    · by_cases hkd : k = d
      · subst hkd; rw [hd]; exact .inl rfl
      · exact (hless k hkd).trans (Less.kill d _)
    · simp only [List.mem_cons, not_or] at hk
      refine hlv k hk.2 ?_
      rw [live_set, if_neg hk.1]
      exact (live_kill d k).2 hlk
end
end Go.Proofs.YtgdcefohfebleaaDoor.V
/- Calls that work on blocks handed in, or make blocks: the state behind them. -/
set_option linter.unusedVariables false
set_option linter.unusedSimpArgs false
set_option linter.unusedSectionVars false
namespace Go.Proofs.YtgdcefohfebleaaDoor.V
open Go Go.RowKit

section
variable {P : Program} {cx : Cx} {W0 : World} {ok0 S0 : Nat → Prop} {β0 : Nat → Ent} {tm : TM} {mm : MM} {β : Nat → Ent} {a : Act} {w : World} {o : Oper} {Q : Exit → Act → World → Prop} {K : TM → MM → Prop}

theorem hks_ok (n : Nat) : (hks.take n).Nodup ∧ ∀ h ∈ hks.take n, hk ≤ h := by
  have h1 : hks.Nodup := by decide
  have h2 : ∀ h ∈ hks, hk ≤ h := by decide
  exact ⟨h1.sublist (List.take_sublist _ _), fun h hm => h2 h (List.mem_of_mem_take hm)⟩
theorem rep_of_subset {w : World} {ok ok' : Nat → Prop} (ho : ∀ b, ok b → ok' b) (l : List AV) {vs : List Value} (h : AV.reps w ok β l vs) : AV.reps w ok' β l vs :=
  AV.reps_mono (fun _ _ => rfl) ho l (fun _ _ => rfl) h

theorem heapK_pre (h : SRep cx W0 ok0 S0 β0 tm mm β a w) (hc : Cok P cx W0 ok0 S0) {dst : Option Nat} {C : List AV → MM → (MM → AV → Prop) → Prop} {l : List AV} {vs : List Value} (hl : AV.reps w (okB W0 ok0 S0 mm β w) β l vs)
    (hk : heapK cx dst C l tm mm K) :
    ∃ (βc : Nat → Ent) (okc : Nat → Prop) (l' : List AV) (m0 : MM) (Kc : MM → AV → Prop), C l' m0 Kc ∧ GlobOk cx.gl w (fun b => okc b ∧ ¬ S0of m0 βc b) ∧ MS w okc (S0of m0 βc) βc m0 βc w ∧ AV.reps w (okB w okc (S0of m0 βc) m0 βc w) βc l' vs ∧
      ∀ (w' : World) (v : Value) (mm' : MM) (β' : Nat → Ent) (r : AV), Kc mm' r → MS w okc (S0of m0 βc) βc mm' β' w' → r.rep w' (okB w okc (S0of m0 βc) mm' β' w') β' v →
        (m0 = [] → Below w.heap.size w w') ∧ ∃ tm' mm' β', (dst = none → ∀ c, β' c = β c) ∧ SRep cx W0 ok0 S0 β0 tm' mm' β' (a.put dst v) w' ∧ K tm' mm' := by
  unfold heapK at hk
  obtain ⟨ks1, hk⟩ := keysLK_ok _ _ _ hk
  obtain ⟨ks, hk⟩ := boxKeys_ok mm _ _ _ hk
  obtain ⟨f, gg, hk, hf1, hg2, hfg, n, hf2, hg1⟩ := zipK_ok _ _ hk
  obtain ⟨hnh, hhk⟩ := hks_ok n
  -- the callee's view of where blocks lie
  let βc : Nat → Ent := fun k => match rn k gg with
    | some c => β c
    | none => β k
  have hgn : (gg.map Prod.fst).Nodup := by rw [hg1]; exact hnh
  have hfn2 : (f.map Prod.snd).Nodup := by rw [hf2]; exact hnh
  have hβc : ∀ c h, (c, h) ∈ f → βc h = β c := fun c h hm => by
    show (match rn h gg with | some c => β c | none => β h) = β c
    rw [rn_of hgn ((hfg c h).1 hm)]
  have hfh : ∀ c h, (c, h) ∈ f → V.hk ≤ h := fun c h hm => hhk h (by rw [← hf2]; exact List.mem_map.2 ⟨_, hm, rfl⟩)
  obtain ⟨l', hk, hl', _⟩ := rensK_ok (w := w) (ok := okB W0 ok0 S0 mm β w) (β := β) (β' := βc) (fun k c hr => hβc k c (rn_mem hr)) l _ hk
  obtain ⟨m0, hk, hT, hgone⟩ := handK_ok (w := w) (ok := okB W0 ok0 S0 mm β w) (β := β) (β' := βc) (fun k c hr => hβc k c (rn_mem hr)) f (fun c h hm => hβc c h hm) hfn2 hk
  obtain ⟨nw, hk, hn1, hn2, hn3⟩ := numK_ok _ _ hk
  cases hb : (nodupB ks && nodupB (sndL nw) && allLt V.hk (sndL nw) && !anyIn ks (sndL nw)) with
  | false => simp only [hb, cond_false] at hk
  | true =>
  simp only [hb, cond_true] at hk
  simp only [Bool.and_eq_true, Bool.not_eq_true'] at hb
  obtain ⟨⟨⟨hb1, hb2⟩, hb3⟩, hb4⟩ := hb
  have hfn : (f.map Prod.fst).Nodup := by rw [hf1]; exact nodupB_iff _ hb1
  have hnn : (nw.map Prod.snd).Nodup := by rw [← sndL_eq]; exact nodupB_iff _ hb2
  have hnlt : ∀ i c, (i, c) ∈ nw → c < V.hk := fun i c hm => allLt_iff _ _ hb3 c (by rw [sndL_eq]; exact List.mem_map.2 ⟨_, hm, rfl⟩)
  have hnks : ∀ i c, (i, c) ∈ nw → c ∉ ks := fun i c hm => anyIn_iff _ _ hb4 c (by rw [sndL_eq]; exact List.mem_map.2 ⟨_, hm, rfl⟩)
  have hfks : ∀ c h, (c, h) ∈ f → c ∈ ks := fun c h hm => by rw [← hf1]; exact List.mem_map.2 ⟨_, hm, rfl⟩
  -- a live block there is one here
  have hlive : ∀ k, live m0 βc k → ∃ c, (c, k) ∈ f ∧ live mm β c ∧ βc k = β c := by
    intro k hlv
    by_cases hin : ∃ c, (c, k) ∈ f
    · obtain ⟨c, hcf⟩ := hin
      exact ⟨c, hcf, (hT c k hcf).lives.1 hlv, hβc c k hcf⟩
    · have := hgone k (fun c hcf => hin ⟨c, hcf⟩)
      unfold live at hlv
      rw [this] at hlv
      exact hlv.elim
  let okc := okB W0 ok0 S0 mm β w
  let S0c := S0of m0 βc
  have hS0c : ∀ b, S0c b → ∃ c h, (c, h) ∈ f ∧ live mm β c ∧ (β c).blk = b := by
    rintro b ⟨k, hlv, rfl⟩
    obtain ⟨c, h1, h2, h3⟩ := hlive k hlv
    exact ⟨c, k, h1, h2, by rw [h3]⟩
  have hokc : ∀ b, okc b → okB w okc S0c m0 βc w b := fun b hb => ⟨hb.1, .inr (.inl hb), fun k hlv e => by
    obtain ⟨c, h1, h2, h3⟩ := hlive k hlv
    rw [h3] at e
    exact hb.2.2 c h2 e⟩
  have hglob : GlobOk cx.gl w (fun b => okc b ∧ ¬ S0c b) := by
    intro g' m f' hgl
    obtain ⟨h1, h2, h3, h4⟩ := hc.gl g' m f' hgl
    have hok : okc g' := ⟨Nat.lt_of_lt_of_le h1 h.fr.size, .inr (.inl h2), fun k hk e => by
      rcases (h.ow k hk).2 with h5 | h5
      · rw [e] at h5; exact absurd h1 (Nat.not_lt.2 h5)
      · rw [e] at h5; exact h3 h5⟩
    refine ⟨hok.1, ⟨hok, fun hs => ?_⟩, fun j hj => ?_⟩
    · obtain ⟨c, hh, _, hlv, e⟩ := hS0c g' hs
      exact hok.2.2 c hlv e
    · obtain ⟨x, e1, e3, e2⟩ := h4 j hj
      refine ⟨x, e1, e3, ?_⟩
      rw [World.cell?_of_block (w := W0) (by rw [show ((⟨g', 0, none⟩ : Addr).add j).block = g' from by unfold Addr.add; split <;> rfl]; exact h.fr.block g' h1 h3)]
      exact e2
  have hms : MS w okc S0c βc m0 βc w := {
    me := fun k => by
      by_cases hin : ∃ c, (c, k) ∈ f
      · obtain ⟨c, hcf⟩ := hin
        exact BlkRep.mono _ ((hT c k hcf).rep (h.me c)) (fun _ _ => rfl) hokc rfl (fun _ => rfl) (fun _ _ _ _ => rfl)
      · rw [hgone k (fun c hcf => hin ⟨c, hcf⟩)]; trivial
    inj := fun j k hj hk' e => by
      obtain ⟨c, h1, h2, h3⟩ := hlive j hj
      obtain ⟨c', h1', h2', h3'⟩ := hlive k hk'
      rw [h3, h3'] at e
      obtain rfl := h.inj c c' h2 h2' e
      have e1 := rn_of hfn h1
      rw [rn_of hfn h1'] at e1
      exact (Option.some.inj e1).symm
    ow := fun k hk' => by
      obtain ⟨c, h1, h2, h3⟩ := hlive k hk'
      exact ⟨by rw [h3]; exact (h.ow c h2).1, .inr ⟨k, hk', rfl⟩⟩
    fr := ⟨rfl, rfl, rfl, Nat.le_refl _, fun _ _ _ => rfl⟩
    fx := fun _ _ => rfl }
  refine ⟨βc, okc, l', m0, _, hk, hglob, hms, rep_of_subset hokc l' (hl' vs hl), fun w' v mm' β' r hpost hms' hr => ?_⟩
  have hpost := catR_ok _ _ hpost
  obtain ⟨tm1, mm1, hpost, h1, ho1, hr1, hrb1, hg1', hless, hlv1⟩ := killsL_ok _ h hpost
  have hnames : ∀ c, c ∈ sndL nw ↔ ∃ i, (i, c) ∈ nw := fun c => by
    rw [sndL_eq, List.mem_map]
    exact ⟨fun ⟨⟨i, c'⟩, hm, e⟩ => ⟨i, by cases e; exact hm⟩, fun ⟨i, hm⟩ => ⟨_, hm, rfl⟩⟩
  -- where blocks lie afterwards
  let sw : RN := nw.map fun x => (x.2, x.1)
  have hswn : (sw.map Prod.fst).Nodup := by
    have : sw.map Prod.fst = nw.map Prod.snd := by simp [sw]
    rw [this]; exact hnn
  have hsw : ∀ i c, (i, c) ∈ nw ↔ (c, i) ∈ sw := fun i c => by
    simp only [sw, List.mem_map, Prod.mk.injEq]
    exact ⟨fun hm => ⟨(i, c), hm, rfl, rfl⟩, fun ⟨⟨i', c'⟩, hm, e1, e2⟩ => by cases e1; cases e2; exact hm⟩
  let βn : Nat → Ent := fun k => match rn k sw with
    | some i => β' i
    | none => β k
  have hβn : ∀ i c, (i, c) ∈ nw → βn c = β' i := fun i c hm => by
    show (match rn c sw with | some i => β' i | none => β c) = β' i
    rw [rn_of hswn ((hsw i c).1 hm)]
  have hβo : ∀ c, (∀ i, (i, c) ∉ nw) → βn c = β c := fun c hm => by
    show (match rn c sw with | some i => β' i | none => β c) = β c
    cases hq : rn c sw with
    | none => rfl
    | some i => exact absurd ((hsw i c).2 (rn_mem hq)) (hm i)
  have hβf : ∀ c h, (c, h) ∈ f → βn c = β' h := fun c h hcf => by
    rw [hβo c (fun i hi => hnks i c hi (hfks c h hcf)), hms'.fx h (hfh c h hcf), hβc c h hcf]
  -- which key here is which key there
  have hsrc : ∀ k c, rn k (gg ++ nw) = some c → (c, k) ∈ f ∨ (k, c) ∈ nw := fun k c hr => by
    rcases List.mem_append.1 (rn_mem hr) with h2 | h2
    · exact .inl ((hfg c k).2 h2)
    · exact .inr h2
  have hren : ∀ k c, rn k (gg ++ nw) = some c → βn c = β' k := fun k c hr => by
    rcases hsrc k c hr with h2 | h2
    · exact hβf c k h2
    · exact hβn k c h2
  let okc' := okB w okc S0c mm' β' w'
  obtain ⟨mm2, hpost, hT2, hK2⟩ := backK_ok (w := w') (ok := okc') (β := β') (β' := βn) hren f (fun c h hcf => hβf c h hcf) hfn mm1 hpost
  obtain ⟨mm3, hpost, hT3, hK3⟩ := newsK_ok (w := w') (ok := okc') (β := β') (β' := βn) hren nw (fun i c hm => hβn i c hm) hnn tm1 mm2 hpost (fun i c hm => by
    rw [hK2 c (fun h hcf => hnks i c hm (hfks c h hcf))]
    exact hg1' c ((hnames c).2 ⟨i, hm⟩))
  obtain ⟨r', hpost, hr', _⟩ := renK_ok (w := w') (ok := okc') (β := β') (β' := βn) hren r _ hpost
  -- what is told of key k
  have hcase : ∀ k, (∃ i, ((k, i) ∈ f ∨ (i, k) ∈ nw) ∧ Tr w' okc' β' βn (gg ++ nw) i k (lkM i mm') (lkM k mm3)) ∨ ((∀ h, (k, h) ∉ f) ∧ (∀ i, (i, k) ∉ nw) ∧ lkM k mm3 = lkM k mm1) := by
    intro k
    by_cases h1 : ∃ i, (i, k) ∈ nw
    · obtain ⟨i, hi⟩ := h1
      exact .inl ⟨i, .inr hi, hT3 i k hi⟩
    · have h1' : ∀ i, (i, k) ∉ nw := fun i hi => h1 ⟨i, hi⟩
      by_cases h2 : ∃ h, (k, h) ∈ f
      · obtain ⟨hh, hf'⟩ := h2
        refine .inl ⟨hh, .inl hf', ?_⟩
        rw [hK3 k h1']
        exact hT2 k hh hf'
      · have h2' : ∀ h, (k, h) ∉ f := fun hh hf' => h2 ⟨hh, hf'⟩
        refine .inr ⟨h2', h1', ?_⟩
        rw [hK3 k h1', hK2 k h2']
  have hlvo : ∀ k, (∀ h, (k, h) ∉ f) → (∀ i, (i, k) ∉ nw) → lkM k mm3 = lkM k mm1 → live mm3 βn k → live mm β k := fun k _ h2 h3 hlv => by
    unfold live at hlv ⊢
    rw [h3, hβo k h2] at hlv
    exact (hless k).lives hlv
  -- blocks that are not among those handed in
  have hnS : ∀ k, live mm β k → (∀ h, (k, h) ∉ f) → ¬ S0c (β k).blk := fun k hlv h2 hs => by
    obtain ⟨c, hh, h3, h4, h5⟩ := hS0c _ hs
    obtain rfl := h.inj c k h4 hlv h5
    exact h2 hh h3
  let ok1 := okB W0 ok0 S0 mm1 β w
  have hokS : ∀ b, ok1 b → ¬ S0c b := fun b hb hs => by
    obtain ⟨c, hh, h3, h4, h5⟩ := hS0c _ hs
    exact hb.2.2 c (hlv1 c (fun hm => by
      obtain ⟨i, hi⟩ := (hnames c).1 hm
      exact hnks i c hi (hfks c hh h3)) h4) h5
  have hw1 : ∀ b, ok1 b → w'.heap[b]? = w.heap[b]? := fun b hb => hms'.fr.block b hb.1 (hokS b hb)
  have hap : ∀ k i, ((k, i) ∈ f ∨ (i, k) ∈ nw) → βn k = β' i := fun k i h5 => h5.elim (fun h5 => hβf k i h5) (fun h5 => hβn i k h5)
  -- what may be read
  have hok1 : ∀ b, ok1 b → okB W0 ok0 S0 mm3 βn w' b := fun b hb => ⟨Nat.lt_of_lt_of_le hb.1 hms'.fr.size, hb.2.1, fun k hlv e => by
    rcases hcase k with ⟨i, h5, ht⟩ | ⟨h2, h3, h4⟩
    · have hli : live mm' β' i := ht.lives.1 hlv
      rw [hap k i h5] at e
      rcases (hms'.ow i hli).2 with h5 | h5
      · rw [e] at h5; have := hb.1; omega
      · rw [e] at h5; exact hokS b hb h5
    · rw [hβo k h3] at e
      refine hb.2.2 k ?_ e
      unfold live at hlv ⊢
      rwa [h4, hβo k h3] at hlv⟩
  have hok2 : ∀ b, okc' b → okB W0 ok0 S0 mm3 βn w' b := fun b hb => ⟨hb.1, by
    rcases hb.2.1 with h2 | h2 | h2
    · exact .inl (Nat.le_trans h.fr.size h2)
    · exact h2.2.1
    · obtain ⟨c, hh, _, h4, h5⟩ := hS0c _ h2
      rw [← h5]
      rcases (h.ow c h4).2 with h6 | h6
      · exact .inl h6
      · exact .inr (.inr h6), fun k hlv e => by
    rcases hcase k with ⟨i, h5, ht⟩ | ⟨h2, h3, h4⟩
    · have hli : live mm' β' i := ht.lives.1 hlv
      have hbi : βn k = β' i := h5.elim (fun h5 => hβf k i h5) (fun h5 => hβn i k h5)
      rw [hbi] at e
      exact hb.2.2 i hli e
    · have hl0 := hlvo k h2 h3 h4 hlv
      rw [hβo k h3] at e
      rcases hb.2.1 with h6 | h6 | h6
      · have := (h.ow k hl0).1; omega
      · exact h6.2.2 k hl0 e
      · rw [← e] at h6; exact hnS k hl0 h2 h6⟩
  have hfin : SRep cx W0 ok0 S0 β0 tm1 mm3 βn a w' := {
    nt := h1.nt
    df := Marks.mono h1.df (fun r hr => hms'.fr.block r (Array.getElem?_eq_some_iff.1 hr).1 (fun hs => by
      obtain ⟨c, hh, _, h4, h5⟩ := hS0c _ hs
      exact h.no_mark h4 (by rw [h5]; exact hr)))
    tm := fun t => by
      exact AV.rep_mono (w := w) (ok := okB W0 ok0 S0 mm1 β w) (β := β) hw1 hok1 _ (fun c hc => hβo c (fun i hi => (hr1 t c hc).1 ((hnames c).2 ⟨i, hi⟩))) (h1.tm t)
    me := fun k => by
      rcases hcase k with ⟨i, h5, ht⟩ | ⟨h2, h3, h4⟩
      · exact BlkRep.mono _ (ht.rep (hms'.me i)) (fun _ _ => rfl) hok2 rfl (fun _ => rfl) (fun _ _ _ _ => rfl)
      · rw [h4]
        refine BlkRep.mono _ (h1.me k) hw1 hok1 (hβo k h3) (fun hlv => ?_) (fun cs hcs c hc => hβo c (fun i hi => hrb1 k cs hcs c hc ((hnames c).2 ⟨i, hi⟩)))
        have hl0 : live mm β k := (hless k).lives hlv
        exact hms'.fr.block _ (h.ow k hl0).1 (hnS k hl0 h2)
    inj := fun j k hj hk' e => by
      have far : ∀ j k, (∃ i, ((j, i) ∈ f ∨ (i, j) ∈ nw) ∧ Tr w' okc' β' βn (gg ++ nw) i j (lkM i mm') (lkM j mm3)) → ((∀ h, (k, h) ∉ f) ∧ (∀ i, (i, k) ∉ nw) ∧ lkM k mm3 = lkM k mm1) → live mm3 βn j → live mm3 βn k → (βn j).blk ≠ (βn k).blk := by
        rintro j k ⟨i, h5, ht⟩ ⟨h2, h3, h4⟩ hj hk' e
        have hl0 := hlvo k h2 h3 h4 hk'
        rw [hap j i h5, hβo k h3] at e
        rcases (hms'.ow i (ht.lives.1 hj)).2 with h6 | h6
        · have := (h.ow k hl0).1; omega
        · rw [e] at h6; exact hnS k hl0 h2 h6
      rcases hcase j with hA | hB <;> rcases hcase k with hA' | hB'
      · obtain ⟨i, h5, ht⟩ := hA
        obtain ⟨i', h5', ht'⟩ := hA'
        rw [hap j i h5, hap k i' h5'] at e
        obtain rfl := hms'.inj i i' (ht.lives.1 hj) (ht'.lives.1 hk') e
        rcases h5 with h5 | h5 <;> rcases h5' with h5' | h5'
        · have e1 := rn_of hgn ((hfg j i).1 h5)
          rw [rn_of hgn ((hfg k i).1 h5')] at e1
          exact (Option.some.inj e1).symm
        · have := hfh j i h5; have := (hn2 i k h5').2; omega
        · have := hfh k i h5'; have := (hn2 i j h5).2; omega
        · have e1 := rn_of hn3 h5
          rw [rn_of hn3 h5'] at e1
          exact (Option.some.inj e1).symm
      · exact absurd e (far j k hA hB' hj hk')
      · exact absurd e.symm (far k j hA' hB hk' hj)
      · rw [hβo j hB.2.1, hβo k hB'.2.1] at e
        exact h.inj j k (hlvo j hB.1 hB.2.1 hB.2.2 hj) (hlvo k hB'.1 hB'.2.1 hB'.2.2 hk') e
    ow := fun k hlv => by
      rcases hcase k with ⟨i, h5, ht⟩ | ⟨h2, h3, h4⟩
      · have hli : live mm' β' i := ht.lives.1 hlv
        have hbi : βn k = β' i := h5.elim (fun h5 => hβf k i h5) (fun h5 => hβn i k h5)
        rw [hbi]
        refine ⟨(hms'.ow i hli).1, ?_⟩
        rcases (hms'.ow i hli).2 with h6 | h6
        · exact .inl (Nat.le_trans h.fr.size h6)
        · obtain ⟨c, hh, _, h7, h8⟩ := hS0c _ h6
          rw [← h8]
          exact (h.ow c h7).2
      · have hl0 := hlvo k h2 h3 h4 hlv
        rw [hβo k h3]
        exact ⟨Nat.lt_of_lt_of_le (h.ow k hl0).1 hms'.fr.size, (h.ow k hl0).2⟩
    fr := ⟨hms'.fr.os.trans h.fr.os, hms'.fr.tape.trans h.fr.tape, hms'.fr.output.trans h.fr.output, Nat.le_trans h.fr.size hms'.fr.size, fun b hb hs => by
      rw [hms'.fr.block b (Nat.lt_of_lt_of_le hb h.fr.size) (fun hs' => ?_)]
      · exact h.fr.block b hb hs
      · obtain ⟨c, hh, _, h7, h8⟩ := hS0c _ hs'
        rcases (h.ow c h7).2 with h6 | h6
        · rw [h8] at h6; omega
        · rw [h8] at h6; exact hs h6⟩
    fx := fun k hk' => by rw [hβo k (fun i hi => by have := hnlt i k hi; omega)]; exact h.fx k hk' }
  obtain ⟨tm', h', hK⟩ := putK_ok hfin hpost (AV.rep_mono (fun _ _ => rfl) hok2 _ (fun _ _ => rfl) (hr' v hr))
  refine ⟨fun hm0 => ?_, tm', mm3, βn, fun hd c => hβo c (fun i hi => by
    subst hd
    have hn1 : nw.map Prod.snd = [] := hn1
    rw [List.map_eq_nil_iff] at hn1
    rw [hn1] at hi; cases hi), h', hK⟩
  exact ⟨hms'.fr.os, hms'.fr.tape, hms'.fr.output, hms'.fr.size, fun b hb => hms'.fr.block b hb (fun ⟨k, hlv, _⟩ => by rw [hm0] at hlv; exact hlv.elim)⟩
theorem heapK_ok (h : SRep cx W0 ok0 S0 β0 tm mm β a w) (hc : Cok P cx W0 ok0 S0) {dst : Option Nat} {C : List AV → MM → (MM → AV → Prop) → Prop} {l : List AV} {vs : List Value} (hl : AV.reps w (okB W0 ok0 S0 mm β w) β l vs)
    (hk : heapK cx dst C l tm mm K) {g : FuncId} (hm : ∀ args mm0 K, C args mm0 K → Does P cx.gl g args mm0 K) :
    Calls P g vs.toArray w fun e w' => match e with
      | .returned v => ((∀ args mm0 K, C args mm0 K → mm0 = []) → Below w.heap.size w w') ∧ ∃ tm' mm' β', SRep cx W0 ok0 S0 β0 tm' mm' β' (a.put dst v) w' ∧ K tm' mm'
      | _ => False := by
  obtain ⟨βc, okc, l', m0, Kc, hC, hglob, hms, hl', hend⟩ := heapK_pre h hc hl hk
  refine Calls.mono (hm l' m0 _ hC w βc okc vs hglob hms hl') fun e w' he => ?_
  cases e with
  | panicked _ => exact he.elim
  | outgrown => exact he.elim
  | returned v =>
    obtain ⟨mm', β', r, hpost, hms', hr⟩ := he
    obtain ⟨h1, tm', mm', β', _, h2⟩ := hend w' v mm' β' r hpost hms' hr
    exact ⟨fun hE => h1 (hE _ _ _ hC), tm', mm', β', h2⟩
end
end Go.Proofs.YtgdcefohfebleaaDoor.V
/- Calls. -/
set_option linter.unusedVariables false
set_option linter.unusedSimpArgs false
set_option linter.unusedSectionVars false
namespace Go.Proofs.YtgdcefohfebleaaDoor.V
open Go Go.RowKit

/-- g has a body. -/
def Fn (P : Program) (g : FuncId) : Prop := ∃ fn : Func, P.funcs[g]? = some fn ∧ (fn.name == "runtime.NumGoroutine") = false ∧ fn.body.isNone = false
/-- A call of yield (the first of args) with the other one of args comes to post. -/
def YDoes (P : Program) (gl : Nat → Option (Nat × (Nat → DV))) (args : List AV) (mm0 : MM) (post : MM → AV → Prop) : Prop :=
  ∀ (W : World) (β : Nat → Ent) (ok0 : Nat → Prop) (L : Nat) (x : Value), GlobOk gl W (fun b => ok0 b ∧ ¬ S0of mm0 β b) → MS W ok0 (S0of mm0 β) β mm0 β W →
    AV.reps W (okB W ok0 (S0of mm0 β) mm0 β W) β args [.func (.yield L) #[] #[], x] →
    YieldAt Fence.wide 0 P L #[x] W fun e w' => match e with
      | .returned v => ∃ mm' β' r, post mm' r ∧ MS W ok0 (S0of mm0 β) β mm' β' w' ∧ r.rep w' (okB W ok0 (S0of mm0 β) mm' β' w') β' v
      | _ => False
def YMeets (P : Program) (gl : Nat → Option (Nat × (Nat → DV))) (C : List AV → MM → (MM → AV → Prop) → Prop) : Prop :=
  ∀ args mm0 K, C args mm0 K → YDoes P gl args mm0 K
structure Sok (P : Program) (cx : Cx) : Prop where
  sp : ∀ g s, cx.sp g = some s → Fn P g ∧ Meets P cx.gl g s
  fs : ∀ i g s, cx.fs i = some (g, s) → Fn P g ∧ Meets P cx.gl g s
  ys : ∀ C, cx.ys = some C → YMeets P cx.gl C

section
variable {P : Program} {cx : Cx} {W0 : World} {ok0 S0 : Nat → Prop} {β0 : Nat → Ent} {tm : TM} {mm : MM} {β : Nat → Ent} {a : Act} {w : World} {o : Oper} {Q : Exit → Act → World → Prop} {K : TM → MM → Prop}

theorem data_of {ok : Nat → Prop} {r : DV} (hs : r.isSl = true) {A : Option Addr} {c : Nat} (hc : r.len ≤ c)
    (h : r.len = 0 ∨ ∃ ad vs, A = some ad ∧ ok ad.block ∧ CellsRep w ok r vs ∧ ∀ m u, vs[m]? = some u → w.cell? (ad.add m) = some u) : r.rep w ok (.slice A r.len c) := by
  refine (DV.rep_sl hs _).2 ⟨A, c, rfl, hc, fun hpos => ?_⟩
  rcases h with h | ⟨ad, vs, rfl, hok, h1, h2⟩
  · omega
  · refine ⟨ad, rfl, hok, fun i hi j hj => ?_⟩
    obtain ⟨u, hu, h3⟩ := h1.2 i hi j hj
    exact ⟨u, h2 _ _ hu, h3⟩
/-- What a value says to one who reads alone. -/
theorem asDV_rep (h : SRep cx W0 ok0 S0 β0 tm mm β a w) {x : AV} {K : DV → Prop} (hk : asDV mm x K) {v : Value} (hx : x.rep w (okB W0 ok0 S0 mm β w) β v) {ok : Nat → Prop} (ho : ∀ b, b < w.heap.size → ok b) :
    ∃ r, K r ∧ r.rep w ok v := by
  have ho1 : ∀ b, okB W0 ok0 S0 mm β w b → ok b := fun b hb => ho b hb.1
  unfold asDV at hk
  split at hk
  · exact ⟨_, hk, DV.rep_mono (fun _ _ => rfl) ho1 _ hx⟩
  · exact ⟨_, hk, DV.rep_mono (fun _ _ => rfl) ho1 _ hx.1⟩
  · rename_i b n
    obtain ⟨e, r, hb, ⟨hn⟩, hk⟩ := rowK_ok hk
    have hbm := h.me b
    rw [hb] at hbm
    refine ⟨r, hk, ?_⟩
    have hv : (β b).own n v := hx
    unfold Ent.own at hv
    split at hv
    · obtain ⟨h0, A, rfl⟩ := hv
      have h1 : r.len = 0 := by omega
      have := data_of (w := w) (ok := ok) (r := r) hbm.1 (A := A) (c := 0) (by omega) (.inl h1)
      rwa [h1] at this
    · obtain ⟨rfl, hcap⟩ := hv
      rw [hn] at hcap ⊢
      refine data_of hbm.1 hcap ?_
      rcases Nat.eq_zero_or_pos r.len with h0 | h0
      · exact .inl h0
      · obtain ⟨hlv, _, vs, hh, _, _, hcell⟩ := row_cells h hb h0
        obtain ⟨us, h1, h2⟩ := read_cells (ad := ⟨(β b).blk, 0, none⟩) (r := r) (w := w) (ok := ok) (fun i hi j hj => by
          obtain ⟨u, hu, h1, hr⟩ := hcell i hi j hj
          exact ⟨u, by rw [add_plain0, cell_heap hh]; simpa using hu, h1, DV.rep_mono (fun _ _ => rfl) ho1 _ hr⟩)
        exact .inr ⟨_, us, rfl, ho _ (h.ow b hlv).1, h1, h2⟩
  · rename_i b k off n
    obtain ⟨e, r, hb, hk⟩ := rowK_ok hk
    cases hq : Nat.beq k r.width with
    | false => simp only [hq, cond_false] at hk
    | true =>
      simp only [hq, cond_true] at hk
      have hq' := Nat.eq_of_beq_eq_true hq
      obtain ⟨⟨hle⟩, hk⟩ := hk
      obtain ⟨r', hk, hs', hl', hw', hc'⟩ := cutDV_ok hk (by omega) hle
      refine ⟨r', hk, ?_⟩
      obtain ⟨A, c, rfl, hcap, hA⟩ := hx
      have hln : r'.len = n := by omega
      rw [← hln]
      refine data_of hs' (by omega) ?_
      rcases Nat.eq_zero_or_pos n with h0 | h0
      · exact .inl (by omega)
      · obtain rfl := hA h0
        obtain ⟨hlv, _, vs, hh, _, _, hcell⟩ := row_cells h hb (by omega)
        obtain ⟨us, h1, h2⟩ := read_cells (ad := ⟨(β b).blk, off * k, none⟩) (r := r') (w := w) (ok := ok) (fun i hi j hj => by
          rw [hw'] at hj
          obtain ⟨u, hu, h1, hr⟩ := hcell (off + i) (by omega) j hj
          refine ⟨u, ?_, h1, by rw [hc' i j (by omega)]; exact DV.rep_mono (fun _ _ => rfl) ho1 _ hr⟩
          rw [add_plain0, cell_heap hh, hq', hw', ← Nat.add_assoc, ← Nat.add_mul]; exact hu)
        exact .inr ⟨_, us, rfl, ho _ (h.ow b hlv).1, h1, h2⟩
  · exact hk.elim
theorem listDVf_rep {f : AV → (DV → Prop) → Prop} {ok ok' : Nat → Prop} (hf : ∀ (x : AV) (K : DV → Prop), f x K → ∀ v, x.rep w ok' β v → ∃ r, K r ∧ r.rep w ok v) : ∀ (l : List AV) {K : List DV → Prop}, listDVf f l K → ∀ {vs : List Value}, AV.reps w ok' β l vs → ∃ r, K r ∧ dreps w ok r vs
  | [], K, hk, vs, hx => ⟨[], hk, hx⟩
  | x :: l, K, hk, vs, ⟨v, rest, e, h1, h2⟩ => by
    obtain ⟨r, hk, hr⟩ := hf x _ hk v h1
    obtain ⟨rs, hk, hrs⟩ := listDVf_rep hf l hk h2
    exact ⟨_, hk, v, rest, e, hr, hrs⟩
theorem asDVf_rep (h : SRep cx W0 ok0 S0 β0 tm mm β a w) {ok : Nat → Prop} (ho : ∀ b, b < w.heap.size → ok b) : ∀ (n : Nat) (x : AV) (K : DV → Prop), asDVf mm n x K → ∀ v, x.rep w (okB W0 ok0 S0 mm β w) β v → ∃ r, K r ∧ r.rep w ok v
  | 0, _, _, hk, _, _ => hk.elim
  | n + 1, x, K, hk, v, hx => by
    have fnc : ∀ (i : Option Nat) (g : FuncId) (l : List AV), (listDVf (asDVf mm n) l fun l => K (.fn i g l.length fun i => l.getD i (.v undef))) → (∃ vs : List Value, v = .func (.func g) #[] vs.toArray ∧ AV.reps w (okB W0 ok0 S0 mm β w) β l vs) → ∃ r, K r ∧ r.rep w ok v := by
      rintro i g l hk ⟨vs, e, h2⟩
      obtain ⟨r, hk, hr⟩ := listDVf_rep (asDVf_rep h ho n) l hk h2
      obtain ⟨h3, h4⟩ := dreps_get r hr
      exact ⟨_, hk, vs, e, h3.symm, h4⟩
    simp only [asDVf] at hk
    split at hk
    · obtain ⟨ad, e, h1, h2⟩ := hx
      exact ⟨_, hk, ad, e, fun hm => ho _ (h1 hm).1, fun j hj => by
        obtain ⟨u, hu, h3, hr⟩ := h2 j hj
        exact ⟨u, hu, h3, DV.rep_mono (fun _ _ => rfl) (fun b hb => ho b hb.1) _ hr⟩⟩
    · rename_i b j
      rw [getK_eq] at hk
      split at hk
      · rename_i cs hcs
        have hb := h.me b
        rw [hcs] at hb
        obtain ⟨vs, e, hh, hr, h1⟩ := hb
        obtain ⟨l, hk, hl⟩ := listDVf_rep (asDVf_rep h ho n) _ hk (reps_drop j _ hr)
        obtain ⟨hll, hlg⟩ := dreps_get l hl
        have hlv : live mm β b := by unfold live; rw [hcs]; trivial
        have hx : v = _ := hx
        refine ⟨_, hk, _, hx, fun _ => ho _ (h.ow b hlv).1, fun i hi => ?_⟩
        have hi2 : i < (vs.drop j).length := by omega
        refine ⟨(vs.drop j)[i], ?_, h1 _ (List.mem_of_mem_drop (List.getElem_mem hi2)), hlg i _ (List.getElem?_eq_getElem hi2)⟩
        rw [add_plain0, cell_heap hh, ← List.getElem?_drop, List.getElem?_eq_getElem hi2]
      · exact hk.elim
    · exact fnc _ _ _ hk hx
    · exact fnc _ _ _ hk hx
    · exact asDV_rep h hk hx ho
mutual
theorem lendK_ok (h : SRep cx W0 ok0 S0 β0 tm mm β a w) {ok : Nat → Prop} {β' : Nat → Ent} (ho : ∀ b, b < w.heap.size → ok b) : ∀ (x : AV) (K : AV → Prop), lendK mm x K → ∀ {v : Value}, x.rep w (okB W0 ok0 S0 mm β w) β v → ∃ x', K x' ∧ x'.rep w ok β' v
  | .top, K, hk, v, hx => hk.elim
  | .tup _, K, hk, v, hx => hk.elim
  | .rp _ _ _ _, K, hk, v, hx => hk.elim
  | .d x, K, hk, v, hx => ⟨_, hk, DV.rep_mono (fun _ _ => rfl) (fun b hb => ho b hb.1) _ hx⟩
  | .full x, K, hk, v, hx => ⟨_, hk, DV.rep_mono (fun _ _ => rfl) (fun b hb => ho b hb.1) _ hx.1, hx.2⟩
  | .ep m f, K, hk, v, ⟨ad, e, h1, h2⟩ => ⟨_, hk, ad, e, fun hm => ho _ (h1 hm).1, fun j hj => by
      obtain ⟨u, hu, h3, hr⟩ := h2 j hj
      exact ⟨u, hu, h3, DV.rep_mono (fun _ _ => rfl) (fun b hb => ho b hb.1) _ hr⟩⟩
  | .own b n, K, hk, v, hx => by
    obtain ⟨r, hk, hr⟩ := asDV_rep h (x := .own b n) (K := fun r => K (.d r)) hk hx ho
    exact ⟨_, hk, hr⟩
  | .seg b k o n, K, hk, v, hx => by
    obtain ⟨r, hk, hr⟩ := asDV_rep h (x := .seg b k o n) (K := fun r => K (.d r)) hk hx ho
    exact ⟨_, hk, hr⟩
  | .bp b j, K, hk, v, hx => by
    simp only [lendK, getK_eq] at hk
    split at hk
    · rename_i cs hcs
      have hb := h.me b
      rw [hcs] at hb
      obtain ⟨vs, e, hh, hr, h1⟩ := hb
      obtain ⟨l, hk, hl⟩ := listDVf_rep (asDVf_rep h ho 6) _ hk (reps_drop j _ hr)
      obtain ⟨hll, hlg⟩ := dreps_get l hl
      have hlv : live mm β b := by unfold live; rw [hcs]; trivial
      have hx : v = _ := hx
      refine ⟨_, hk, _, hx, fun _ => ho _ (h.ow b hlv).1, fun i hi => ?_⟩
      have hi2 : i < (vs.drop j).length := by omega
      refine ⟨(vs.drop j)[i], ?_, h1 _ (List.mem_of_mem_drop (List.getElem_mem hi2)), hlg i _ (List.getElem?_eq_getElem hi2)⟩
      rw [add_plain0, cell_heap hh, ← List.getElem?_drop, List.getElem?_eq_getElem hi2]
    · exact hk.elim
  | .agg l, K, hk, v, ⟨vs, e, h1, h2⟩ => by
    obtain ⟨l', hk, hl⟩ := lendsK_ok h ho l _ hk h2
    exact ⟨_, hk, vs, e, h1, hl⟩
  | .fn g l, K, hk, v, ⟨vs, e, h2⟩ => by
    obtain ⟨l', hk, hl⟩ := lendsK_ok h ho l _ hk h2
    exact ⟨_, hk, vs, e, hl⟩
  | .yl _ _ _, K, hk, v, _ => hk.elim
  | .clo i g l, K, hk, v, ⟨vs, e, h2⟩ => by
    obtain ⟨l', hk, hl⟩ := lendsK_ok h ho l _ hk h2
    exact ⟨_, hk, vs, e, hl⟩
theorem lendsK_ok (h : SRep cx W0 ok0 S0 β0 tm mm β a w) {ok : Nat → Prop} {β' : Nat → Ent} (ho : ∀ b, b < w.heap.size → ok b) : ∀ (x : List AV) (K : List AV → Prop), lendsK mm x K → ∀ {vs : List Value}, AV.reps w (okB W0 ok0 S0 mm β w) β x vs → ∃ x', K x' ∧ AV.reps w ok β' x' vs
  | [], K, hk, vs, hx => ⟨[], hk, hx⟩
  | x :: l, K, hk, vs, ⟨v, rest, e, h1, h2⟩ => by
    obtain ⟨x', hk, hr⟩ := lendK_ok h ho x _ hk h1
    obtain ⟨l', hk, hl⟩ := lendsK_ok h ho l _ hk h2
    exact ⟨_, hk, v, rest, e, hr, hl⟩
end
mutual
theorem frzA_ok : ∀ (x : AV) {tm : TM} {mm : MM} (h : SRep cx W0 ok0 S0 β0 tm mm β a w) {K : TM → MM → AV → Prop}, AV.frzA x tm mm K → ∀ {v : Value}, x.rep w (okB W0 ok0 S0 mm β w) β v →
    ∃ tm' mm' x', SRep cx W0 ok0 S0 β0 tm' mm' β a w ∧ (∀ c, okB W0 ok0 S0 mm β w c → okB W0 ok0 S0 mm' β w c) ∧ x'.rep w (okB W0 ok0 S0 mm' β w) β v ∧ K tm' mm' x'
  | .d x, tm, mm, h, K, hk, v, hx => ⟨_, _, _, h, fun _ h => h, hx, hk⟩
  | .full x, tm, mm, h, K, hk, v, hx => ⟨tm, mm, .d x, h, fun _ h => h, hx.1, hk⟩
  | .ep m f, tm, mm, h, K, hk, v, hx => ⟨_, _, _, h, fun _ h => h, hx, hk⟩
  | .own b n, tm, mm, h, K, hk, v, hx => by
    obtain ⟨tm', mm', r, h1, h2, h3, hk⟩ := frzK_ok h (x := .own b n) (K := fun tm mm x => K tm mm (.d x)) (by simpa only [AV.frzA] using hk) hx
    exact ⟨tm', mm', .d r, h1, h2, h3, hk⟩
  | .agg l, tm, mm, h, K, hk, v, ⟨vs, e, h1, h2⟩ => by
    obtain ⟨tm', mm', r, h3, h4, h5, hk⟩ := frzsA_ok l h hk h2
    exact ⟨_, _, .agg r, h3, h4, ⟨vs, e, h1, h5⟩, hk⟩
  | .fn g l, tm, mm, h, K, hk, v, ⟨vs, e, h2⟩ => by
    obtain ⟨tm', mm', r, h3, h4, h5, hk⟩ := frzsA_ok l h hk h2
    exact ⟨_, _, .fn g r, h3, h4, ⟨vs, e, h5⟩, hk⟩
  | .top, tm, mm, h, K, hk, v, hx => hk.elim
  | .bp _ _, tm, mm, h, K, hk, v, hx => hk.elim
  | .rp _ _ _ _, tm, mm, h, K, hk, v, hx => hk.elim
  | .seg _ _ _ _, tm, mm, h, K, hk, v, hx => hk.elim
  | .clo _ _ _, tm, mm, h, K, hk, v, hx => hk.elim
  | .yl _ _ _, tm, mm, h, K, hk, v, hx => hk.elim
  | .tup l, tm, mm, h, K, hk, v, ⟨vs, e, h2⟩ => by
    obtain ⟨tm', mm', r, h3, h4, h5, hk⟩ := frzsA_ok l h hk h2
    exact ⟨_, _, .tup r, h3, h4, ⟨vs, e, h5⟩, hk⟩
theorem frzsA_ok : ∀ (x : List AV) {tm : TM} {mm : MM} (h : SRep cx W0 ok0 S0 β0 tm mm β a w) {K : TM → MM → List AV → Prop}, AV.frzsA x tm mm K → ∀ {vs : List Value}, AV.reps w (okB W0 ok0 S0 mm β w) β x vs →
    ∃ tm' mm' x', SRep cx W0 ok0 S0 β0 tm' mm' β a w ∧ (∀ c, okB W0 ok0 S0 mm β w c → okB W0 ok0 S0 mm' β w c) ∧ AV.reps w (okB W0 ok0 S0 mm' β w) β x' vs ∧ K tm' mm' x'
  | [], tm, mm, h, K, hk, vs, hx => ⟨_, _, _, h, fun _ h => h, hx, hk⟩
  | x :: l, tm, mm, h, K, hk, vs, ⟨v, rest, e, h1, h2⟩ => by
    obtain ⟨tm1, mm1, x', h3, h4, h5, hk⟩ := frzA_ok x h hk h1
    obtain ⟨tm2, mm2, l', h6, h7, h8, hk⟩ := frzsA_ok l h3 hk (rep_of_subset h4 l h2)
    exact ⟨_, _, x' :: l', h6, fun c hc => h7 c (h4 c hc), ⟨v, rest, e, AV.rep_mono (fun _ _ => rfl) h7 _ (fun _ _ => rfl) h5, h8⟩, hk⟩
end
theorem frzOs_ok : ∀ (x : List AV) {tm : TM} {mm : MM} (h : SRep cx W0 ok0 S0 β0 tm mm β a w) {K : TM → MM → List AV → Prop}, frzOs x tm mm K → ∀ {vs : List Value}, AV.reps w (okB W0 ok0 S0 mm β w) β x vs →
    ∃ tm' mm' x', SRep cx W0 ok0 S0 β0 tm' mm' β a w ∧ (∀ c, okB W0 ok0 S0 mm β w c → okB W0 ok0 S0 mm' β w c) ∧ AV.reps w (okB W0 ok0 S0 mm' β w) β x' vs ∧ K tm' mm' x'
  | [], tm, mm, h, K, hk, vs, hx => ⟨tm, mm, [], h, fun _ h => h, hx, hk⟩
  | x :: l, tm, mm, h, K, hk, vs, hx => by
    obtain ⟨v, rest, rfl, hv, hr⟩ := hx
    simp only [frzOs] at hk
    split at hk
    · obtain ⟨tm1, mm1, r, h1, ho1, hr1, hk⟩ := frzK_ok h hk hv
      obtain ⟨tm2, mm2, l', h2, ho2, hl2, hk⟩ := frzOs_ok l h1 hk (AV.reps_mono (fun _ _ => rfl) ho1 _ (fun _ _ => rfl) hr)
      exact ⟨tm2, mm2, .d r :: l', h2, fun c hc => ho2 c (ho1 c hc), ⟨v, rest, rfl, DV.rep_mono (fun _ _ => rfl) ho2 _ hr1, hl2⟩, hk⟩
    · obtain ⟨tm2, mm2, l', h2, ho2, hl2, hk⟩ := frzOs_ok l h hk hr
      exact ⟨tm2, mm2, x :: l', h2, ho2, ⟨v, rest, rfl, AV.rep_mono (fun _ _ => rfl) ho2 _ (fun _ _ => rfl) hv, hl2⟩, hk⟩
theorem appAV_ok {w : World} {ok : Nat → Prop} {β : Nat → Ent} : ∀ (l m : List AV) {K : List AV → Prop}, appAV l m K → ∀ {us vs : List Value}, AV.reps w ok β l us → AV.reps w ok β m vs → ∃ r, K r ∧ AV.reps w ok β r (us ++ vs)
  | [], m, K, hk, us, vs, hu, hv => ⟨m, hk, by rw [show us = [] from hu]; exact hv⟩
  | x :: l, m, K, hk, us, vs, ⟨v, rest, e, h1, h2⟩, hv => by
    obtain ⟨r, hk, hr⟩ := appAV_ok l m hk h2 hv
    exact ⟨_, hk, v, rest ++ vs, by rw [e]; rfl, h1, hr⟩
theorem scal_rep {w w' : World} {ok ok' : Nat → Prop} {β β' : Nat → Ent} : ∀ (x : AV), scal x → ∀ {v : Value}, x.rep w ok β v → x.rep w' ok' β' v := by
  have one : ∀ (x : AV), scalA x → ∀ {v : Value}, x.rep w ok β v → x.rep w' ok' β' v := by
    intro x hs v hx
    unfold scalA at hs
    split at hs
    · exact hx
    · exact hs.elim
  have list : ∀ (l : List AV), scalL l → ∀ {vs : List Value}, AV.reps w ok β l vs → AV.reps w' ok' β' l vs := by
    intro l
    induction l with
    | nil => exact fun _ _ h => h
    | cons x r ih => exact fun hs vs ⟨v, rest, e, h1, h2⟩ => ⟨v, rest, e, one x hs.1 h1, ih hs.2 h2⟩
  intro x hs v hx
  unfold scal at hs
  split at hs
  · exact hx
  · obtain ⟨vs, e, h1, h2⟩ := hx; exact ⟨vs, e, h1, list _ hs h2⟩
  · obtain ⟨vs, e, h2⟩ := hx; exact ⟨vs, e, list _ hs h2⟩
  · exact hs.elim
end
end Go.Proofs.YtgdcefohfebleaaDoor.V
