/-
  Proved here: solventlaw36.HealthPromise returns true for every code, every list of states and every list of lost units, and the arguments read afterwards as they read before. Condition: the package variable field.fields holds what the program's text lays in it (the card ties it).
-/
import Derived.SevenTiedAt
import Derived.Test.YtgdcefohfebleaaDoorM17
set_option linter.unusedVariables false
namespace Go.Proofs.YtgdcefohfebleaaDoor.V
open Go Go.Proofs Go.RowKit Go.WideShapes Go.ChangeShapes Go.Deep
theorem params7 : Tryd.f7.params.toList = [28, 40, 40] := rfl
theorem promise_does : LawDoes 7 Tryd.f7 := by
  intro H enc W args ds p hA hlt hval hsz
  rw [params7] at hA hsz
  obtain ⟨v0, v1, v2, d0, d1, d2, p0, p1, p2, rfl, rfl, rfl, h0, h1, h2⟩ := trodAll_three hA
  have hw : ∀ (j : Nat) (t : TypeId) (d : DataW H), ([28, 40, 40] : List TypeId)[j]? = some t → ([d0, d1, d2] : List (DataW H))[j]? = some d → ∀ n ∈ d.weights P0 t, n ≤ reachBytes := fun j t d e1 e2 n hn => by
    simpa using List.all_eq_true.1 hsz n (DataW.weights_mem_each e1 e2 n hn)
  obtain ⟨c, hn, hp, r0⟩ := arg_code h0 (fun x hx => hlt x (by simp [hx])) (hval 0 28 v0 rfl rfl) (hw 0 28 d0 rfl rfl)
  obtain ⟨s, hs, r1⟩ := arg_num h1 (fun x hx => hlt x (by simp [hx])) (hval 1 40 v1 rfl rfl) (hw 1 40 d1 rfl rfl)
  obtain ⟨x, hx, r2⟩ := arg_num h2 (fun x hx => hlt x (by simp [hx])) (hval 2 40 v2 rfl rfl) (hw 2 40 d2 rfl rfl)
  exact ⟨[codAV c, .d (.ints .i64 s), .d (.ints .i64 x)], ⟨v0, _, rfl, r0, v1, _, rfl, r1, v2, _, rfl, r2, rfl⟩, lawPromise promise c s x hn hp hs hx⟩
theorem read28 : P0.readableRec 28 = true := by kernel_rfl
theorem row28 : 28 < P0.types.size := of_decide_eq_true (by kernel_rfl)
theorem read40 : P0.readableRec 40 = true := by kernel_rfl
theorem row40 : 40 < P0.types.size := of_decide_eq_true (by kernel_rfl)
set_option maxRecDepth 100000 in
theorem healthPromise_lifted (os : Os) (started : os.Started) (H : Type) (enc : TypeId × Value → H) :
    ReturnsInHanded {} Tryd.checked os 7 .any (fun w args => (Go.Proofs.YtgdcefohfebleaaDoor.Rows.healthPromiseSpec.pre enc P0 Tryd.f7 [] false w args ∧ laidMetH P0 laid1 w) ∧ sizedMet enc P0 Tryd.f7 (OpenSpec.ofChange Go.Proofs.YtgdcefohfebleaaDoor.Rows.healthPromiseSpec) false w args)
      (Go.Proofs.YtgdcefohfebleaaDoor.Rows.healthPromiseSpec.post enc P0 Tryd.f7 false true false false) :=
  law_lifted (s := Go.Proofs.YtgdcefohfebleaaDoor.Rows.healthPromiseSpec) started (by kernel_rfl) Tryd.func7 rfl rfl
    (fun ds hds => by
      match ds, hds with
      | [d0, d1, d2], _ => rfl)
    (fun t ht => by
      rw [params7] at ht
      simp only [List.mem_cons, List.not_mem_nil, or_false] at ht
      rcases ht with rfl | rfl | rfl
      · exact ⟨read28, row28⟩
      · exact ⟨read40, row40⟩
      · exact ⟨read40, row40⟩)
    (ChangeSpec.witness_shaped (enc := enc) (C := Tryd.checked) (os := os) (X := fun w _ => laidMetH Tryd.prog laid1 w) false (World.doorLaid Tryd.prog 400 os) #[.agg #[.string ByteArray.empty, .int .i64 0, .int .i64 0, .slice none 0 0, .int .i64 0], .slice none 0 0, .slice none 0 0] 8 rfl (World.shaped_of_RefB (by kernel_rfl) (by kernel_rfl)) (by kernel_rfl) (by kernel_rfl) (by kernel_rfl) (door_met os _))
    promise_does
end Go.Proofs.YtgdcefohfebleaaDoor.V
namespace Go.Proofs.YtgdcefohfebleaaDoor
open Go Go.Proofs.YtgdcefohfebleaaDoor.V
set_option maxRecDepth 100000 in
theorem healthPromise_holds : Rows.HealthPromiseSaid :=
  OpenClaim.holds_of_wide 7 Tryd.f7 rfl rfl rfl rfl rfl rfl rfl ⟨rfl, rfl, rfl, rfl, rfl⟩ rfl rfl rfl rfl rfl (by kernel_rfl) Tryd.func7 (by kernel_rfl)
    (of_decide_eq_true (by kernel_rfl)) (by unfold Func.isWrapper; first | (rw [if_pos (by decide +kernel)]; kernel_rfl) | (rw [if_neg (by decide +kernel)]; exact ⟨rfl, rfl⟩))
    (fun os started H enc _ => healthPromise_lifted os started H enc)
set_option maxRecDepth 100000 in
theorem healthPromise_card_holds : Rows.HealthPromiseCardSaid :=
  Claim7.holds_tied_plain_at .later [] [.data] true (true, "0fba1a5b562579ed76e6dc391de250c34f8b77cb5e9016f2a14c2981d5f9ba67") false
    healthPromise_holds (fun _ h => by cases h) (by kernel_rfl) (fun _ h => by cases h) healthPromise_row_tie rfl ⟨rfl, rfl⟩ (by kernel_rfl) rfl
    (fun f fn hf hfn => by
      obtain rfl : f = 7 := Option.some.inj ((show Tryd.prog.funcNamed "solvent/solventlaw36.HealthPromise" = some 7 by kernel_rfl).symm.trans hf) |>.symm
      obtain rfl : fn = Tryd.f7 := (Option.some.inj (Tryd.func7.symm.trans hfn)).symm
      exact ⟨by kernel_rfl, fun j t ht => by
        have ht' : t ∈ ([28, 40, 40] : List TypeId) := by
          rw [← params7]
          exact List.mem_of_getElem? (by simpa using ht)
        simp only [List.mem_cons, List.not_mem_nil, or_false] at ht'
        rcases ht' with rfl | rfl | rfl
        · exact (show Tryd.prog.wantsStandIn 28 = false by kernel_rfl)
        · exact (show Tryd.prog.wantsStandIn 40 = false by kernel_rfl)
        · exact (show Tryd.prog.wantsStandIn 40 = false by kernel_rfl)⟩)
    (by kernel_rfl)
#print axioms healthPromise_card_holds
end Go.Proofs.YtgdcefohfebleaaDoor
