/-
  For every argument porterlaw35.HolderKnown returns true and leaves its arguments as they were; the card ties the listed variables to the program's text. No condition.
-/
import Derived.Test.YtejhiekikblbiaaDoorHo12
import Derived.Test.YtejhiekikblbiaaDoorShaLaid
import Derived.Test.YtejhiekikblbiaaDoorPost
import Derived.Test.YtejhiekikblbiaaDoorMgI
import Derived.Test.YtejhiekikblbiaaDoorTie
import Derived.Test.YtejhiekikblbiaaDoorCards
import Derived.SevenTiedAt
namespace Go.Proofs.YtejhiekikblbiaaDoor
open Go.ChangeShapes Go.WideShapes Go.ChangeAt Go.RowKit
open Go.ChangeMaps (open_string)

theorem Tryd.ownHolderKnown : ownKnob Tryd.prog.godebug = none := by kernel_rfl

set_option maxRecDepth 100000 in
theorem holderKnown_lifted (os : Os) (started : os.Started) (H : Type) (enc : TypeId × Value → H) :
    ReturnsInHanded {} Tryd.checked os 6 .any (fun w args => (Rows.holderKnownSpec.pre enc Tryd.prog Tryd.f6 [] false w args ∧ laidMetH Tryd.prog laidSha w) ∧ sizedMet enc Tryd.prog Tryd.f6 (OpenSpec.ofChange Rows.holderKnownSpec) false w args)
      (Rows.holderKnownSpec.post enc Tryd.prog Tryd.f6 false true false false) := by
  refine returnsInHanded_of_change_and (C := Tryd.checked) (X := fun w _ => laidMetH Tryd.prog laidSha w) (fun _ _ _ hh h => h.of_heap hh) Tryd.ownHolderKnown started (by kernel_rfl) Tryd.func6
    (ChangeSpec.witness_shaped (enc := enc) (C := Tryd.checked) (os := os) (X := fun w _ => laidMetH Tryd.prog laidSha w) false (World.doorLaid Tryd.prog 400 os) #[.string ⟨#[]⟩, .agg #[.string ⟨#[]⟩, .slice none 0 0, .string ⟨#[]⟩], .slice none 0 0] 8 rfl (World.shaped_of_RefB (by kernel_rfl) (by kernel_rfl)) (by kernel_rfl) (by kernel_rfl) (by kernel_rfl) (door_met os _)) ?_
  intro W base args ds gs before hval0 hW _ _ hL _
  have hval : ∀ (j : Nat) t v, Tryd.f6.params[j]? = some t → args[j]? = some v → Value.okWide Tryd.prog W .any base t v := hval0
  have hW' := hW
  obtain ⟨p, q, hA0, hV, rfl, hfz, hnd⟩ := hW
  have hA : DataW.TrodAll enc Tryd.prog W 0 (fun _ => true) true Tryd.f6.params.toList args.toList ds p := hA0
  rw [Tryd.params6] at hA hval
  obtain ⟨v0, v1, v2, d0, d1, d2, p0, p1, p2, rfl, rfl, rfl, h0, h1, h2⟩ := trodAll_three hA
  obtain ⟨rfl, rfl⟩ := trodVars_none hV
  obtain ⟨s0, rfl, _, _, w0⟩ := open_string Tryd.underlying9 (hval 0 9 v0 rfl rfl) h0
  obtain ⟨s1, rfl, w1⟩ := tok_open (hval 1 24 v1 rfl rfl) h1
  obtain ⟨l2, r2, n2, b2⟩ := open_rd_strs Tryd.underlying41 Tryd.underlying9 (by kernel_rfl) (hval 2 41 v2 rfl rfl) h2
  clear hA0 hval0
  simp only [List.append_nil] at hW'
  refine (holderKnown_walk2 s0 s1 v2 l2 W (tab_of_laid hL) w0 w1 r2 n2 b2).mono fun e W' ⟨he, hg⟩ => ?_
  subst he
  exact ⟨_, rfl, post_of_below (pv := []) hW' (fun _ _ _ => trodAll_mk1 (shut_bool Tryd.underlying4 _))
    (fun sp hsp => trodAll_stays (by kernel_rfl) (by kernel_rfl) hA (fun x hx => hg.same (by simpa using hW'.lt x hx)) hsp) (fun _ _ => rfl) (by simp)
    hg (ok_one (by kernel_rfl) rfl (okWide_bool_mk Tryd.underlying4 _))⟩

theorem holderKnown_row : Rows.HolderKnownSaid :=
  OpenClaim.holds_of_wide 6 Tryd.f6 rfl rfl rfl rfl rfl rfl rfl ⟨rfl, rfl, rfl, rfl, rfl⟩ rfl rfl rfl rfl rfl (by kernel_rfl) Tryd.func6 (by kernel_rfl)
    (of_decide_eq_true (by kernel_rfl)) (by unfold Func.isWrapper; first | (rw [if_pos (by decide +kernel)]; kernel_rfl) | (rw [if_neg (by decide +kernel)]; exact ⟨rfl, rfl⟩))
    (fun os started H enc _ => holderKnown_lifted os started H enc)

theorem holderKnown_holds : Rows.HolderKnownCardSaid :=
  Claim7.holds_tied_plain_at .later [] [.data] true (true, "3d86f997f7caff659cf35da611cffad7247484a5a014fadf598e818fb6bcc1ff") false
    holderKnown_row (fun _ h => by cases h) (by kernel_rfl) (fun _ h => by cases h) holderKnown_row_tie rfl ⟨rfl, rfl⟩ (by kernel_rfl) rfl
    (fun f fn hf hfn => by
      obtain rfl : f = 6 := Option.some.inj ((show Tryd.prog.funcNamed "porter/porterlaw35.HolderKnown" = some 6 by kernel_rfl).symm.trans hf) |>.symm
      obtain rfl : fn = Tryd.f6 := (Option.some.inj (Tryd.func6.symm.trans hfn)).symm
      exact ⟨by kernel_rfl, fun j t ht => by
        rw [Tryd.params6] at ht
        have hm : t ∈ [9, 24, 41] := by simpa using Array.mem_of_getElem? ht
        have hall : ([9, 24, 41].all fun u => !Tryd.prog.wantsStandIn u) = true := by kernel_rfl
        exact (show Tryd.prog.wantsStandIn t = false by simpa using List.all_eq_true.1 hall t hm)⟩)
    (by kernel_rfl)
#print axioms holderKnown_holds
end Go.Proofs.YtejhiekikblbiaaDoor
