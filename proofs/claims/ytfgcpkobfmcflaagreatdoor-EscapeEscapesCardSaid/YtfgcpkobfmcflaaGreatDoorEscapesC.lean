/-
  EscapeEscapes: the row and its card: the law returns true for every input; the input reads behind the call as it read before.
-/
import Derived.Test.YtfgcpkobfmcflaaGreatDoorWit
import Derived.Test.YtfgcpkobfmcflaaGreatDoorEscapes
namespace Go.Proofs.YtfgcpkobfmcflaaGreatDoor
open Go.ChangeShapes Go.WideShapes Go.ChangeAt Go.RowKit
open Go.ChangeMaps (open_string shut_string)

theorem escapes_wit (os : Os) {H : Type} (enc : TypeId × Value → H) :
    (OpenSpec.ofChange Rows.escapeEscapesSpec).preRow enc Tryz.prog Tryz.f4 Rows.escapeEscapesRow.domain false Rows.escapeEscapesRow.laid ((wit os).forCall (fun _ _ => 0) ⟨#[], #[Value.string ⟨#[]⟩, Value.bool false], []⟩).memory #[Value.string ⟨#[]⟩, Value.bool false] := by
  have hw : (DataW.whole enc Tryz.prog ((wit os).forCall (fun _ _ => 0) ⟨#[], #[Value.string ⟨#[]⟩, Value.bool false], []⟩).memory Tryz.f4.params.toList Rows.escapeEscapesSpec.vars false #[Value.string ⟨#[]⟩, Value.bool false].toList 8).map (fun x => (x.1, x.2.1)) =
      some ([.lit (.string []), .lit (.bool false)], []) := by kernel_rfl
  obtain ⟨⟨x1, x2, x3⟩, hx, hx1⟩ := Option.map_eq_some_iff.1 hw
  simp only [Prod.mk.injEq] at hx1
  obtain ⟨rfl, rfl⟩ := hx1
  exact OpenSpec.preRow_of_cond 8 hx (by kernel_rfl) (fun k hk => by cases hk) (by kernel_rfl) (wit_met os _)

set_option maxRecDepth 100000 in
theorem escapes_lifted (os : Os) (started : os.Started) (H : Type) (enc : TypeId × Value → H) (F : Stop.Interp) :
    ReturnsInHanded {} Tryz.checked os 4 .any ((OpenSpec.ofChange Rows.escapeEscapesSpec).preRow enc Tryz.prog Tryz.f4 Rows.escapeEscapesRow.domain false Rows.escapeEscapesRow.laid) (((OpenSpec.ofChange Rows.escapeEscapesSpec).at F).post enc Tryz.prog Tryz.f4 false true false false) := by
  refine returnsInHanded_of_row (C := Tryz.checked) (s := OpenSpec.ofChange Rows.escapeEscapesSpec) own started (by kernel_rfl) Tryz.func4
    (witness_row_atRef (enc := enc) (C := Tryz.checked) false (wit os) #[Value.string ⟨#[]⟩, Value.bool false] rfl (wit_vars os _) (wit_rest os _) (by kernel_rfl) (escapes_wit os enc)) ?_
  intro W base args ds gs before hval0 hW _ _ _ hL hsh _
  have hval : ∀ (j : Nat) t v, Tryz.f4.params[j]? = some t → args[j]? = some v → Value.okWide Tryz.prog W .any base t v := hval0
  have hW' := hW
  obtain ⟨p, q, hA0, hV0, rfl, _, _⟩ := hW
  have hA : DataW.TrodAll enc Tryz.prog W 0 (fun _ => true) true Tryz.f4.params.toList args.toList ds p := hA0
  rw [Tryz.params4] at hA hval
  obtain ⟨v0, vs0, d0, ds0, p0, q0, hargs, rfl, rfl, h0, r0⟩ := trodAll_cons hA
  obtain ⟨v1, vs1, d1, ds1, p1, q1, hargs1, rfl, rfl, h1, r1⟩ := trodAll_cons r0
  obtain ⟨rfl, rfl, rfl⟩ := trodAll_nil r1
  obtain rfl : args = #[v0, v1] := by cases args; simp_all
  obtain ⟨rfl, rfl⟩ := trodVars_none hV0
  obtain ⟨s0, rfl, rfl, rfl, ws0⟩ := open_string Tryz.underlying9 (hval 0 9 v0 rfl rfl) h0
  obtain ⟨s1, rfl, rfl, rfl⟩ := open_bool Tryz.underlying4 (hval 1 4 v1 rfl rfl) h1
  clear hA0 hV0 hval0
  refine (escapes_any s0 s1 W (env_of hL hsh)).mono ?_
  rintro e W' ⟨rfl, bel⟩
  simp only [List.append_nil] at hW'
  have e1 : ((OpenSpec.ofChange Rows.escapeEscapesSpec).at F).fn H ([.lit (.string s0.data.toList), .lit (.bool s1)] ++ []) = { results := [.lit (.bool true)], args := [.lit (.string s0.data.toList), .lit (.bool s1)] } := rfl
  refine ⟨_, rfl, _, _, _, [], [], [], hW', ?_, ?_, ?_, bel.frame _, fun h => by cases h⟩
  · rw [e1]; exact trodAll_mk1 (shut_bool Tryz.underlying4 _)
  · rw [e1]; exact trodAll_cons_mk (shut_string Tryz.underlying9 ws0) (trodAll_mk1 (shut_bool Tryz.underlying4 _))
  · rw [e1]; rfl

theorem escapes_said : Rows.EscapeEscapesSaid :=
  OpenClaim.holds_of_cond 4 Tryz.f4 rfl rfl rfl rfl rfl rfl rfl ⟨rfl, rfl, rfl, rfl, rfl⟩ rfl rfl rfl rfl rfl (by kernel_rfl) Tryz.func4 (by kernel_rfl)
    (of_decide_eq_true (by kernel_rfl)) (by unfold Func.isWrapper; first | (rw [if_pos (by decide +kernel)]; kernel_rfl) | (rw [if_neg (by decide +kernel)]; exact ⟨rfl, rfl⟩))
    (fun os started H enc _ F => by rw [OpenClaim.pre_eq_preRow]; exact escapes_lifted os started H enc F)

theorem escapes_plain (f : FuncId) (fn : Func) (hf : Tryz.pinned.checked.prog.funcNamed "broadsheet/broadsheetlaw06.EscapeEscapes" = some f) (hfn : Tryz.pinned.checked.prog.funcs[f]? = some fn) :
    true = Tryz.pinned.checked.prog.looks [] ∧ ∀ (j : Nat) t, fn.params[j]? = some t → Tryz.pinned.checked.prog.wantsStandIn t = false := by
  obtain rfl : f = 4 := Option.some.inj ((show Tryz.prog.funcNamed "broadsheet/broadsheetlaw06.EscapeEscapes" = some 4 by kernel_rfl).symm.trans hf) |>.symm
  obtain rfl : fn = Tryz.f4 := (Option.some.inj (Tryz.func4.symm.trans hfn)).symm
  refine ⟨by kernel_rfl, fun j t ht => ?_⟩
  rw [Tryz.params4] at ht
  have hm := Array.mem_of_getElem? ht
  simp at hm
  rcases hm with rfl | rfl
  · exact (show Tryz.prog.wantsStandIn 9 = false by kernel_rfl)
  · exact (show Tryz.prog.wantsStandIn 4 = false by kernel_rfl)

theorem escapes_card : Rows.EscapeEscapesCardSaid :=
  Claim7.holds_tied_plain_at .later [] _ _ _ _ escapes_said (fun _ h => by cases h) (by kernel_rfl) (fun _ h => by cases h) escapeEscapes_row_tie rfl ⟨rfl, rfl⟩ (by kernel_rfl) rfl escapes_plain (by kernel_rfl)
#print axioms escapes_card
end Go.Proofs.YtfgcpkobfmcflaaGreatDoor
