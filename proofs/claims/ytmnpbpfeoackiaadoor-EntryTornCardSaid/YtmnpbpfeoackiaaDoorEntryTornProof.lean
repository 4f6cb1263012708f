/-
  For every argument porterlaw43.EntryTorn returns true and leaves its arguments as they were; the card ties the listed variables to the program's text. No condition.
-/
import Derived.Test.YtmnpbpfeoackiaaDoorEn21
import Derived.Test.YtmnpbpfeoackiaaDoorShaLaid
import Derived.Test.YtmnpbpfeoackiaaDoorMhJ
import Derived.Test.YtmnpbpfeoackiaaDoorArr2
import Derived.Test.YtmnpbpfeoackiaaDoorPost
import Derived.Test.YtmnpbpfeoackiaaDoorRow
import Derived.Test.YtmnpbpfeoackiaaDoorTie
import Derived.Test.YtmnpbpfeoackiaaDoorCards
import Derived.SevenTiedAt
namespace Go.Proofs.YtmnpbpfeoackiaaDoor
open Go.ChangeShapes Go.WideShapes Go.ChangeAt Go.RowKit
open Go.ChangeMaps (open_string)

theorem Tryd.ownEntryTorn : ownKnob Tryd.prog.godebug = none := by kernel_rfl

set_option maxRecDepth 100000 in
theorem entryTorn_lifted (os : Os) (started : os.Started) (H : Type) (enc : TypeId × Value → H) :
    ReturnsInHanded {} Tryd.checked os 11 .any (fun w args => (Rows.entryTornSpec.pre enc Tryd.prog Tryd.f11 [] false w args ∧ laidMetH Tryd.prog laidSha w) ∧ sizedMet enc Tryd.prog Tryd.f11 (OpenSpec.ofChange Rows.entryTornSpec) false w args)
      (Rows.entryTornSpec.post enc Tryd.prog Tryd.f11 false true false false) := by
  refine returnsInHanded_of_change_and (C := Tryd.checked) (X := fun w _ => laidMetH Tryd.prog laidSha w) (fun _ _ _ hh h => h.of_heap hh) Tryd.ownEntryTorn started (by kernel_rfl) Tryd.func11
    (ChangeSpec.witness_shaped (enc := enc) (C := Tryd.checked) (os := os) (X := fun w _ => laidMetH Tryd.prog laidSha w) false (World.doorLaid Tryd.prog 400 os) #[.slice none 0 0, .agg #[.int .i64 0, .int .i64 0, .int .i64 0, .int .i64 0], .agg #[.string ⟨#[]⟩, .string ⟨#[]⟩]] 8 rfl (World.shaped_of_RefB (by kernel_rfl) (by kernel_rfl)) (by kernel_rfl) (by kernel_rfl) (by kernel_rfl) (door_met os _)) ?_
  intro W base args ds gs before hval0 hW _ _ hL _
  have hval : ∀ (j : Nat) t v, Tryd.f11.params[j]? = some t → args[j]? = some v → Value.okWide Tryd.prog W .any base t v := hval0
  have hW' := hW
  obtain ⟨p, q, hA0, hV, rfl, hfz, hnd⟩ := hW
  have hA : DataW.TrodAll enc Tryd.prog W 0 (fun _ => true) true Tryd.f11.params.toList args.toList ds p := hA0
  rw [Tryd.params11] at hA hval
  obtain ⟨v0, v1, v2, d0, d1, d2, p0, p1, p2, rfl, rfl, rfl, h0, h1, h2⟩ := trodAll_three hA
  obtain ⟨rfl, rfl⟩ := trodVars_none hV
  obtain ⟨bs, r0, n0, -⟩ := open_rd_strs Tryd.underlying53 Tryd.underlying9 (by kernel_rfl) (hval 0 53 v0 rfl rfl) h0
  obtain ⟨a0, a1, a2, a3, rfl, -, -⟩ := arr4_open (hval 1 46 v1 rfl rfl) h1
  obtain ⟨s0, s1, rfl, w1⟩ := arr2_open (hval 2 67 v2 rfl rfl) h2
  clear hA0 hval0
  simp only [List.append_nil] at hW'
  refine (entryTorn_walk bs v0 a0 a1 a2 a3 s0 s1 W (tab_of_laid hL) r0 n0 w1).mono fun e W' ⟨he, hg⟩ => ?_
  subst he
  exact ⟨_, rfl, post_of_below (pv := []) hW' (fun _ _ _ => trodAll_mk1 (shut_bool Tryd.underlying4 _))
    (fun sp hsp => trodAll_stays (by kernel_rfl) (by kernel_rfl) hA (fun x hx => hg.same (by simpa using hW'.lt x hx)) hsp) (fun _ _ => rfl) (by simp)
    hg (ok_one (by kernel_rfl) rfl (okWide_bool_mk Tryd.underlying4 _))⟩

theorem entryTorn_row : Rows.EntryTornSaid :=
  OpenClaim.holds_of_wide 11 Tryd.f11 rfl rfl rfl rfl rfl rfl rfl ⟨rfl, rfl, rfl, rfl, rfl⟩ rfl rfl rfl rfl rfl (by kernel_rfl) Tryd.func11 (by kernel_rfl)
    (of_decide_eq_true (by kernel_rfl)) (by unfold Func.isWrapper; first | (rw [if_pos (by decide +kernel)]; kernel_rfl) | (rw [if_neg (by decide +kernel)]; exact ⟨rfl, rfl⟩))
    (fun os started H enc _ => entryTorn_lifted os started H enc)

theorem entryTorn_holds : Rows.EntryTornCardSaid :=
  Claim7.holds_tied_plain_at .later [] [.data] true (true, "4a0fcdf425ee0c0dd5c147a0fd7db9f61c73dcca3f937821df05adacb7c802a4") true
    entryTorn_row (fun _ h => by cases h) (by kernel_rfl) (fun _ h => by cases h) entryTorn_row_tie rfl ⟨rfl, rfl⟩ (by kernel_rfl) rfl
    (fun f fn hf hfn => by
      obtain rfl : f = 11 := Option.some.inj ((show Tryd.prog.funcNamed "porter/porterlaw43.EntryTorn" = some 11 by kernel_rfl).symm.trans hf) |>.symm
      obtain rfl : fn = Tryd.f11 := (Option.some.inj (Tryd.func11.symm.trans hfn)).symm
      exact ⟨by kernel_rfl, fun j t ht => by
        rw [Tryd.params11] at ht
        have hm : t ∈ [53, 46, 67] := by simpa using Array.mem_of_getElem? ht
        have hall : ([53, 46, 67].all fun u => !Tryd.prog.wantsStandIn u) = true := by kernel_rfl
        exact (show Tryd.prog.wantsStandIn t = false by simpa using List.all_eq_true.1 hall t hm)⟩)
    (by kernel_rfl)
#print axioms entryTorn_holds
end Go.Proofs.YtmnpbpfeoackiaaDoor
