/-
  EscapeSmall: the row and its card: the law returns true for every input; the input reads behind the call as it read before.
-/
import Derived.Test.YtfgcpkobfmcflaaGreatDoorWit
import Derived.Test.YtfgcpkobfmcflaaGreatDoorSmall
import Derived.Carry
import Derived.ChangeSlices
namespace Go.Proofs.YtfgcpkobfmcflaaGreatDoor
open Go.ChangeShapes Go.WideShapes Go.ChangeAt Go.RowKit
open Go.ChangeMaps (open_string shut_string)

theorem laidOut : laidOutB Tryz.prog = true := by kernel_rfl
theorem cells_u8 : Tryz.prog.cellsOf 5 = 1 := by kernel_rfl

theorem small_wit (os : Os) {H : Type} (enc : TypeId × Value → H) :
    (OpenSpec.ofChange Rows.escapeSmallSpec).preRow enc Tryz.prog Tryz.f7 Rows.escapeSmallRow.domain false Rows.escapeSmallRow.laid ((wit os).forCall (fun _ _ => 0) ⟨#[], #[Value.slice none 0 0], []⟩).memory #[Value.slice none 0 0] := by
  have hw : (DataW.whole enc Tryz.prog ((wit os).forCall (fun _ _ => 0) ⟨#[], #[Value.slice none 0 0], []⟩).memory Tryz.f7.params.toList Rows.escapeSmallSpec.vars false #[Value.slice none 0 0].toList 8).map (fun x => (x.1, x.2.1)) =
      some ([.nil], []) := by kernel_rfl
  obtain ⟨⟨x1, x2, x3⟩, hx, hx1⟩ := Option.map_eq_some_iff.1 hw
  simp only [Prod.mk.injEq] at hx1
  obtain ⟨rfl, rfl⟩ := hx1
  exact OpenSpec.preRow_of_cond 8 hx (by kernel_rfl) (fun k hk => by cases hk) (by kernel_rfl) (wit_met os _)

set_option maxRecDepth 100000 in
theorem small_lifted (os : Os) (started : os.Started) (H : Type) (enc : TypeId × Value → H) (F : Stop.Interp) :
    ReturnsInHanded {} Tryz.checked os 7 .any ((OpenSpec.ofChange Rows.escapeSmallSpec).preRow enc Tryz.prog Tryz.f7 Rows.escapeSmallRow.domain false Rows.escapeSmallRow.laid) (((OpenSpec.ofChange Rows.escapeSmallSpec).at F).post enc Tryz.prog Tryz.f7 false true false false) := by
  refine returnsInHanded_of_row (C := Tryz.checked) (s := OpenSpec.ofChange Rows.escapeSmallSpec) own started (by kernel_rfl) Tryz.func7
    (witness_row_atRef (enc := enc) (C := Tryz.checked) false (wit os) #[Value.slice none 0 0] rfl (wit_vars os _) (wit_rest os _) (by kernel_rfl) (small_wit os enc)) ?_
  intro W base args ds gs before hval0 hW _ _ _ hL hsh _
  have hval : ∀ (j : Nat) t v, Tryz.f7.params[j]? = some t → args[j]? = some v → Value.okWide Tryz.prog W .any base t v := hval0
  have hW' := hW
  obtain ⟨p, q, hA0, hV0, rfl, _, _⟩ := hW
  have hA : DataW.TrodAll enc Tryz.prog W 0 (fun _ => true) true Tryz.f7.params.toList args.toList ds p := hA0
  rw [Tryz.params7] at hA hval
  obtain ⟨v0, vs0, d0, ds0, p0, q0, hargs, rfl, rfl, h0, r0⟩ := trodAll_cons hA
  obtain ⟨rfl, rfl, rfl⟩ := trodAll_nil r0
  obtain rfl : args = #[v0] := by cases args; simp_all
  obtain ⟨rfl, rfl⟩ := trodVars_none hV0
  have h0k := h0
  have hlt : ∀ x ∈ p0, x.block < W.heap.size := fun x hx => by have := hW'.lt x (by simpa using hx); exact this
  have hargs : ∀ (W' : World), Below W.heap.size W W' → DataW.Trod enc Tryz.prog W' 0 (fun b => decide (b < W.heap.size)) true 30 v0 d0 p0 :=
    fun W' hn => Below.trod laidOut (by kernel_rfl) (of_decide_eq_true (by kernel_rfl)) h0k hn hlt
  have hbytes : BytesAt W v0 := by
    obtain ⟨fuel, hf⟩ := h0
    obtain ⟨a1, len, cap, rfl⟩ := okWide_slice Tryz.underlying30 (hval 0 30 v0 rfl rfl)
    rcases open_ints Tryz.underlying30 Tryz.underlying5 cells_u8 hf with ⟨hcs, hx⟩ | ⟨a, len', cap', zs, hcs, _, hl, hm, hz, hx, hcell, hwz⟩
    · left
      simp [Value.cells] at hcs
      obtain ⟨rfl, rfl, rfl⟩ := hcs
      exact ⟨_, _, rfl⟩
    · simp [Value.cells] at hcs
      obtain ⟨rfl, rfl, rfl⟩ := hcs
      simp only [if_true] at hz
      by_cases h0len : 0 < len
      · right
        obtain ⟨ab, ao, spot⟩ := a
        have hspot : spot = none := by simpa [Addr.add] using World.cell?_spot (hcell 0 (by omega))
        subst hspot
        refine ⟨ab, ao, len, cap, rfl, by omega, fun i hi => ?_⟩
        have h1 := hcell i (by omega)
        have hw := hwz (zs.getD i 0) (by rw [List.getD_eq_getElem?_getD, List.getElem?_eq_getElem (show i < zs.length by omega)]; exact List.getElem_mem _)
        have e1 : IntKind.u8.min = 0 := rfl
        have e2 : IntKind.u8.max = 255 := rfl
        obtain ⟨z, hzz⟩ : ∃ z, z = zs.getD i 0 := ⟨_, rfl⟩
        rw [← hzz] at hw h1
        refine ⟨z, ?_, ?_⟩
        · have e : (⟨ab, ao, none⟩ : Addr).add i = ⟨ab, ao + i, none⟩ := by unfold Addr.add; split <;> simp_all
          rw [← e]
          exact h1
        · simp [Lit.wf, e1, e2] at hw
          omega
      · left
        obtain rfl : len = 0 := by omega
        exact ⟨_, _, rfl⟩
  clear hA0 hV0 hval0
  refine (small_any v0 W (env_of hL hsh) hbytes).mono ?_
  rintro e W' ⟨rfl, bel⟩
  simp only [List.append_nil] at hW'
  have e1 : ((OpenSpec.ofChange Rows.escapeSmallSpec).at F).fn H ([d0] ++ []) = { results := [.lit (.bool true)], args := [d0] } := rfl
  refine ⟨_, rfl, _, _, _, [], p0, [], hW', ?_, ?_, ?_, bel.frame _, fun h => by cases h⟩
  · rw [e1]; exact trodAll_mk1 (shut_bool Tryz.underlying4 _)
  · rw [e1]; exact trodAll_mk1 (hargs _ bel)
  · rw [e1]; rfl

theorem small_said : Rows.EscapeSmallSaid :=
  OpenClaim.holds_of_cond 7 Tryz.f7 rfl rfl rfl rfl rfl rfl rfl ⟨rfl, rfl, rfl, rfl, rfl⟩ rfl rfl rfl rfl rfl (by kernel_rfl) Tryz.func7 (by kernel_rfl)
    (of_decide_eq_true (by kernel_rfl)) (by unfold Func.isWrapper; first | (rw [if_pos (by decide +kernel)]; kernel_rfl) | (rw [if_neg (by decide +kernel)]; exact ⟨rfl, rfl⟩))
    (fun os started H enc _ F => by rw [OpenClaim.pre_eq_preRow]; exact small_lifted os started H enc F)

theorem small_plain (f : FuncId) (fn : Func) (hf : Tryz.pinned.checked.prog.funcNamed "broadsheet/broadsheetlaw06.EscapeSmall" = some f) (hfn : Tryz.pinned.checked.prog.funcs[f]? = some fn) :
    true = Tryz.pinned.checked.prog.looks [] ∧ ∀ (j : Nat) t, fn.params[j]? = some t → Tryz.pinned.checked.prog.wantsStandIn t = false := by
  obtain rfl : f = 7 := Option.some.inj ((show Tryz.prog.funcNamed "broadsheet/broadsheetlaw06.EscapeSmall" = some 7 by kernel_rfl).symm.trans hf) |>.symm
  obtain rfl : fn = Tryz.f7 := (Option.some.inj (Tryz.func7.symm.trans hfn)).symm
  refine ⟨by kernel_rfl, fun j t ht => ?_⟩
  rw [Tryz.params7] at ht
  obtain rfl : t = 30 := by simpa using Array.mem_of_getElem? ht
  exact (show Tryz.prog.wantsStandIn 30 = false by kernel_rfl)

theorem small_card : Rows.EscapeSmallCardSaid :=
  Claim7.holds_tied_plain_at .later [] _ _ _ _ small_said (fun _ h => by cases h) (by kernel_rfl) (fun _ h => by cases h) escapeSmall_row_tie rfl ⟨rfl, rfl⟩ (by kernel_rfl) rfl small_plain (by kernel_rfl)
#print axioms small_card
end Go.Proofs.YtfgcpkobfmcflaaGreatDoor
