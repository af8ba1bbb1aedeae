/- The law CircleNone returns true and leaves its arguments as_ they were. For every input, without conditions. -/
import Derived.Test.YtcdcmgjnbjoajaaGreatDoorK52d6baecd
namespace Go.Proofs.YtcdcmgjnbjoajaaGreatDoor.circleNone
open Go.ChangeShapes Go.WideShapes Go.ChangeAt Go.RowKit Go.Proofs.YtcdcmgjnbjoajaaGreatDoor.LawDoor
set_option maxRecDepth 100000 in
theorem lifted (os : Os) (started : os.Started) (H : Type) (enc : TypeId × Value → H) :
    ReturnsInHanded {} Tryz.checked os 4 .any (fun w args => (Rows.circleNoneSpec.pre enc Tryz.prog Tryz.f4 [] false w args ∧ laidMetH Tryz.prog z8t w) ∧ sizedMet enc Tryz.prog Tryz.f4 (OpenSpec.ofChange Rows.circleNoneSpec) false w args)
      (Rows.circleNoneSpec.post enc Tryz.prog Tryz.f4 false true false false) := by
  refine returnsInHanded_of_change_and (C := Tryz.checked) (X := fun w _ => laidMetH Tryz.prog z8t w) (fun _ _ _ hh h => h.of_heap hh) own started (by kernel_rfl) Tryz.func4
    (ChangeSpec.witness_shaped (enc := enc) (C := Tryz.checked) (os := os) (X := fun w _ => laidMetH Tryz.prog z8t w) false (World.doorLaid Tryz.prog 400 os) #[.agg (#[.int .u8 0, .int .u8 0, .int .u8 0] ++ #[.int .u8 0, .int .u8 0, .int .u8 0, .int .u8 0] ++ #[.int .i64 0] ++ Array.replicate 32 (.int .u8 0) ++ #[.int .i64 0, .string .empty, .slice none 0 0] ++ #[.int .i64 0, .int .i64 0])] 8 rfl (World.shaped_of_RefB (by kernel_rfl) (by kernel_rfl)) (by kernel_rfl) (by kernel_rfl) (by kernel_rfl) (zny os _)) ?_
  intro W base args ds gs before hval0 hW _ _ hL _
  have hval : ∀ (j : Nat) t v, (Tryz.f4).params[j]? = some t → args[j]? = some v → Value.okWide Tryz.prog W .any base t v := hval0
  refine Am.law_contract_at (C := Am.TC) Am.q2eok (d := 12) (tys := _) (by kernel_rfl) Am.CircleNone_law rfl (tb := 4) ?_ (by kernel_rfl) (by kernel_rfl) zqp (by kernel_rfl) (rel_of hL) hval hW
  intro ds hd
  match ds, hd with
  | [d1], _ => exact ⟨rfl, rfl, rfl⟩
theorem over : Rows.CircleNoneSaid :=
  OpenClaim.holds_of_wide 4 Tryz.f4 rfl rfl rfl rfl rfl rfl rfl ⟨rfl, rfl, rfl, rfl, rfl⟩ rfl rfl rfl rfl rfl (by kernel_rfl) Tryz.func4 (by kernel_rfl)
    (of_decide_eq_true (by kernel_rfl)) (by unfold Func.isWrapper; first | (rw [if_pos (by decide +kernel)]; kernel_rfl) | (rw [if_neg (by decide +kernel)]; exact ⟨rfl, rfl⟩))
    (fun os started H enc _ => lifted os started H enc)
theorem card : Rows.CircleNoneCardSaid :=
  Claim7.holds_tied_plain_at .later [] [.data, .data] true Rows.circleNoneCard.stood.harness false
    over (fun _ h => by cases h) (by kernel_rfl) (fun _ h => by cases h) circleNone_row_tie rfl ⟨rfl, rfl⟩ (by kernel_rfl) rfl
    (fun f fn hf hfn => by
      obtain rfl : f = 4 := Option.some.inj ((show Tryz.prog.funcNamed "speculum/speculumlaw38.CircleNone" = some 4 by kernel_rfl).symm.trans hf) |>.symm
      obtain rfl : fn = Tryz.f4 := (Option.some.inj (Tryz.func4.symm.trans hfn)).symm
      exact ⟨by kernel_rfl, fun j t ht => by
        have hall : ((Tryz.f4).params.toList.all fun u => !Tryz.prog.wantsStandIn u) = true := by kernel_rfl
        have hm : t ∈ (Tryz.f4).params.toList := by
          obtain ⟨hj, rfl⟩ := Array.getElem?_eq_some_iff.1 ht
          exact Array.getElem_mem_toList hj
        show Tryz.prog.wantsStandIn t = false
        simpa using List.all_eq_true.1 hall t hm⟩)
    (by kernel_rfl)
#print axioms card
end Go.Proofs.YtcdcmgjnbjoajaaGreatDoor.circleNone
