/-
  Chapter 37's VerifyBound in plain words: the proofs that are held against each other. No program in sight.
-/
import Derived.Test.YtejhiekikblbiaaGreatDoorVhPlain
import Derived.Test.YtejhiekikblbiaaGreatDoorCh12a
namespace Go.Proofs.YtejhiekikblbiaaGreatDoor
open Go.RowKit

/-- What is summed for a token of one third party's link and one of its own, with one discharge. -/
theorem prove_two_sum {k id s sl x ck : List UInt8} {d : TokL} {t : TokL} (ht : t = ⟨id, [(s, sl), (x, [])], lastL k id [(s, sl), (x, [])]⟩) (hs : sl ≠ []) (ho : openR (sealL (rootL k id)) sl = (ck, 0)) (hd : d.id = s) (hdl : d.links = []) :
    (proveL k t [d]).1.sum = textsL k id [(s, sl), (x, [])] ++ pairT (rootL k id) sealParts ++ boxTexts (sealL (rootL k id)) sl ++ textsL ck d.id d.links ++ pairT t.tag (bindParts (rootL ck s)) := by
  subst ht
  have hg : greatB ⟨id, [(s, sl), (x, [])], lastL k id [(s, sl), (x, [])]⟩ [d] = false := by simp [greatB, hdl]
  have hf : findL s [d] [false] = some 0 := by rw [findL, if_pos ⟨rfl, hd⟩]
  generalize hT : lastL k id [(s, sl), (x, [])] = T at *
  have hl : lastL ck d.id d.links = rootL ck s := by rw [hd, hdl]; rfl
  have hlk : linksL T [d] (begL k ⟨id, [(s, sl), (x, [])], T⟩ [d]) (rootL k id) [(s, sl), (x, [])] =
      if bindL T (rootL ck s) = d.tag then (⟨[true], [(k, ⟨id, [(s, sl), (x, [])], T⟩), (ck, d)], [x], 3 + 1 + (d.links.length + 1) + 1, textsL k id [(s, sl), (x, [])] ++ pairT (rootL k id) sealParts ++ boxTexts (sealL (rootL k id)) sl ++ textsL ck d.id d.links ++ pairT T (bindParts (rootL ck s))⟩, true)
      else (⟨[true], [(k, ⟨id, [(s, sl), (x, [])], T⟩)], [], 3 + 1 + (d.links.length + 1) + 1, textsL k id [(s, sl), (x, [])] ++ pairT (rootL k id) sealParts ++ boxTexts (sealL (rootL k id)) sl ++ textsL ck d.id d.links ++ pairT T (bindParts (rootL ck s))⟩, false) := by
    rw [linksL_cons, if_neg (by simpa using hs), thirdL_use (d := d) (by show (openR (sealL (rootL k id)) sl).2 = 0; rw [ho]) (show findL s [d] _ = some 0 from hf) rfl]
    dsimp only
    rw [ho]
    unfold useL askL
    dsimp only
    rw [hl]
    by_cases hc : bindL T (rootL ck s) = d.tag
    · rw [if_pos hc, if_pos hc, if_pos (by simpa using hc)]
      rw [linksL_cons, if_pos rfl]
      simp [begL, linksL]
    · rw [if_neg hc, if_neg hc, if_neg (by simpa using hc)]
      simp [begL]
  have hp : proveL k ⟨id, [(s, sl), (x, [])], T⟩ [d] = if bindL T (rootL ck s) = d.tag then (⟨[true], [(k, ⟨id, [(s, sl), (x, [])], T⟩), (ck, d)], [x], 3 + 1 + (d.links.length + 1) + 1, textsL k id [(s, sl), (x, [])] ++ pairT (rootL k id) sealParts ++ boxTexts (sealL (rootL k id)) sl ++ textsL ck d.id d.links ++ pairT T (bindParts (rootL ck s))⟩, 0)
      else (⟨[true], [(k, ⟨id, [(s, sl), (x, [])], T⟩)], [], 3 + 1 + (d.links.length + 1) + 1, textsL k id [(s, sl), (x, [])] ++ pairT (rootL k id) sealParts ++ boxTexts (sealL (rootL k id)) sl ++ textsL ck d.id d.links ++ pairT T (bindParts (rootL ck s))⟩, 11) := by
    unfold proveL
    rw [hg, if_neg (by simp)]
    dsimp only
    rw [hT, if_pos rfl]
    have hgo : goL T [d] ([d].length + 2) (begL k ⟨id, [(s, sl), (x, [])], T⟩ [d]) 0 = if (linksL T [d] (begL k ⟨id, [(s, sl), (x, [])], T⟩ [d]) (rootL k id) [(s, sl), (x, [])]).2 = true then goL T [d] 2 (linksL T [d] (begL k ⟨id, [(s, sl), (x, [])], T⟩ [d]) (rootL k id) [(s, sl), (x, [])]).1 1 else ((linksL T [d] (begL k ⟨id, [(s, sl), (x, [])], T⟩ [d]) (rootL k id) [(s, sl), (x, [])]).1, false) := rfl
    rw [hgo, hlk]
    by_cases hc : bindL T (rootL ck s) = d.tag
    · rw [if_pos hc, if_pos hc]
      dsimp only
      rw [if_pos rfl, go_own 2 _ 1 (by simp) (by simp [hdl])]
      simp [hdl]
    · rw [if_neg hc, if_neg hc]
      simp
  rw [hp]
  split <;> rfl
theorem boxT_len (k s : List UInt8) (hs : s.length ≤ 400000) : ∀ p ∈ boxTexts k s, p.length ≤ 900000 := by
  intro p hp
  unfold boxTexts at hp
  split at hp
  · cases hp
  · unfold boxT at hp
    have h1 : (s.take (s.length - 32)).length ≤ 400000 := by rw [List.length_take]; omega
    rcases List.mem_append.1 hp with hp | hp
    · exact pairT_len k [tagS] (by rw [len_tag]; omega) p hp
    · simp at hp
      rcases hp with rfl | rfl
      · unfold innerL; rw [List.length_append, length_hideL]; omega
      · unfold outerL; rw [List.length_append, length_hideL, length_sumL]; omega
def ckS : List UInt8 := [99, 107]
def textS : List UInt8 := [116, 101, 120, 116]
def idS : List UInt8 := [105, 100]
/-- What is made: the ticket, the discharge's tag, the seal, the tags behind the links. -/
structure BoundOk (k a b R S dt SB T1 Tx Ty : List UInt8) : Prop where
  root : rootL k idS = R
  ticket : ticketR notaryS nonceN ckS textS = (S, 0)
  disch : dischargeR notaryS S [] = (⟨S, [], dt⟩, 0)
  third : thirdR ⟨idS, [], R⟩ S ckS nonceF = (⟨idS, [(S, SB)], T1⟩, 0)
  addx : addL ⟨idS, [(S, SB)], T1⟩ a = (⟨idS, [(S, SB), (a, [])], Tx⟩, 0)
  addy : addL ⟨idS, [(S, SB)], T1⟩ b = (⟨idS, [(S, SB), (b, [])], Ty⟩, 0)
  lenR : R.length = 32
  lenS : S.length ≤ 1000
  lenD : dt.length = 32
  lenB : SB.length ≤ 1000
  len1 : T1.length = 32
  lenx : Tx.length = 32
  leny : Ty.length = 32
  same : (proveL k ⟨idS, [(S, SB), (a, [])], Tx⟩ [⟨S, [], bindL Tx dt⟩]).2 = 0
  mixed : bindL Tx dt ≠ bindL Ty dt → (proveL k ⟨idS, [(S, SB), (a, [])], Tx⟩ [⟨S, [], bindL Ty dt⟩]).2 = 11
  mixed0 : bindL Tx dt = bindL Ty dt → (proveL k ⟨idS, [(S, SB), (a, [])], Tx⟩ [⟨S, [], bindL Ty dt⟩]).2 = 0
  clash : bindL Tx dt = bindL Ty dt → ClashM ((proveL k ⟨idS, [(S, SB), (a, [])], Tx⟩ [⟨S, [], bindL Ty dt⟩]).1.sum ++ (proveL k ⟨idS, [(S, SB), (b, [])], Ty⟩ [⟨S, [], bindL Ty dt⟩]).1.sum)
  lens : ∀ p ∈ (proveL k ⟨idS, [(S, SB), (a, [])], Tx⟩ [⟨S, [], bindL Ty dt⟩]).1.sum ++ (proveL k ⟨idS, [(S, SB), (b, [])], Ty⟩ [⟨S, [], bindL Ty dt⟩]).1.sum, p.length ≤ 900000
  short : (proveL k ⟨idS, [(S, SB), (a, [])], Tx⟩ [⟨S, [], bindL Ty dt⟩]).1.sum.length ≤ 100 ∧ (proveL k ⟨idS, [(S, SB), (b, [])], Ty⟩ [⟨S, [], bindL Ty dt⟩]).1.sum.length ≤ 100
theorem bound_ex (k a b : List UInt8) (ha : a.length ≤ 300) (hb : b.length ≤ 300) (hab : a ≠ b) : ∃ R S dt SB T1 Tx Ty, BoundOk k a b R S dt SB T1 Tx Ty := by
  have hck : ckS.length = 2 := rfl
  have htx : textS.length = 4 := rfl
  have hrd := read_ticket (m := notaryS) (n := nonceN) (k := ckS) (t := textS) rfl (by omega)
  have htk := ticketR_ok (m := notaryS) (n := nonceN) (k := ckS) (t := textS) rfl (by omega)
  have lS := length_boxL notaryS nonceN (frameL [ckS, textS])
  rw [len_two] at lS
  have hnn : nonceN.length = 16 := rfl
  have hnf : nonceF.length = 16 := rfl
  generalize boxL notaryS nonceN (frameL [ckS, textS]) = S at *
  have hdis : dischargeR notaryS S [] = (⟨S, [], rootL ckS S⟩, 0) := by rw [dischargeR_ok (by rw [hrd]), hrd]; rfl
  obtain ⟨R, hR⟩ : ∃ R, rootL k idS = R := ⟨_, rfl⟩
  have lR : R.length = 32 := by rw [← hR]; exact length_partsL _ _
  have lSB := length_boxL (sealL R) nonceF ckS
  have hop : openR (sealL R) (boxL (sealL R) nonceF ckS) = (ckS, 0) := open_box _ _ _ rfl (by omega)
  have hth : thirdR ⟨idS, [], R⟩ S ckS nonceF = (withL ⟨idS, [], R⟩ (S, boxL (sealL R) nonceF ckS), 0) := by
    rw [thirdR_seal (by simp) (by omega)]
    rw [sealR_ok rfl (by omega), if_pos rfl]
  obtain ⟨SB, hSB⟩ : ∃ SB, boxL (sealL R) nonceF ckS = SB := ⟨_, rfl⟩
  rw [hSB] at lSB hop hth
  have hne : SB ≠ [] := by intro h; rw [h] at lSB; simp at lSB
  obtain ⟨T1, hT1⟩ : ∃ T1, nextL R (S, SB) = T1 := ⟨_, rfl⟩
  have l1 : T1.length = 32 := by rw [← hT1]; exact length_partsL _ _
  obtain ⟨Tx, hTx⟩ : ∃ Tx, nextL T1 (a, []) = Tx := ⟨_, rfl⟩
  have lx : Tx.length = 32 := by rw [← hTx]; exact length_partsL _ _
  obtain ⟨Ty, hTy⟩ : ∃ Ty, nextL T1 (b, []) = Ty := ⟨_, rfl⟩
  have ly : Ty.length = 32 := by rw [← hTy]; exact length_partsL _ _
  obtain ⟨dt, hdt⟩ : ∃ dt, rootL ckS S = dt := ⟨_, rfl⟩
  have ld : dt.length = 32 := by rw [← hdt]; exact length_partsL _ _
  rw [hdt] at hdis
  have hlx : lastL k idS [(S, SB), (a, [])] = Tx := by rw [← hTx, ← hT1, ← hR]; rfl
  have hly : lastL k idS [(S, SB), (b, [])] = Ty := by rw [← hTy, ← hT1, ← hR]; rfl
  have ho : openR (sealL (rootL k idS)) SB = (ckS, 0) := by rw [hR]; exact hop
  have px1 := prove_two (k := k) (id := idS) (s := S) (sl := SB) (x := a) (ck := ckS) (d := ⟨S, [], bindL Tx dt⟩) (t := ⟨idS, [(S, SB), (a, [])], Tx⟩) (by rw [hlx]) hne ho rfl rfl
  have px2 := prove_two (k := k) (id := idS) (s := S) (sl := SB) (x := a) (ck := ckS) (d := ⟨S, [], bindL Ty dt⟩) (t := ⟨idS, [(S, SB), (a, [])], Tx⟩) (by rw [hlx]) hne ho rfl rfl
  have py2 := prove_two (k := k) (id := idS) (s := S) (sl := SB) (x := b) (ck := ckS) (d := ⟨S, [], bindL Ty dt⟩) (t := ⟨idS, [(S, SB), (b, [])], Ty⟩) (by rw [hly]) hne ho rfl rfl
  have sx := prove_two_sum (k := k) (id := idS) (s := S) (sl := SB) (x := a) (ck := ckS) (d := ⟨S, [], bindL Ty dt⟩) (t := ⟨idS, [(S, SB), (a, [])], Tx⟩) (by rw [hlx]) hne ho rfl rfl
  have sy := prove_two_sum (k := k) (id := idS) (s := S) (sl := SB) (x := b) (ck := ckS) (d := ⟨S, [], bindL Ty dt⟩) (t := ⟨idS, [(S, SB), (b, [])], Ty⟩) (by rw [hly]) hne ho rfl rfl
  rw [hdt] at px1 px2 py2 sx sy
  dsimp only at px1 px2 py2 sx sy
  have hlen : ∀ (y : List UInt8) (T : List UInt8), y.length ≤ 300 → T.length = 32 → ∀ p ∈ textsL k idS [(S, SB), (y, [])] ++ pairT (rootL k idS) sealParts ++ boxTexts (sealL (rootL k idS)) SB ++ textsL ckS S [] ++ pairT T (bindParts dt), p.length ≤ 900000 := fun y T hy hT p hp => by
    rcases List.mem_append.1 hp with hp | hp
    · rcases List.mem_append.1 hp with hp | hp
      · rcases List.mem_append.1 hp with hp | hp
        · rcases List.mem_append.1 hp with hp | hp
          · exact texts_len k idS _ (by decide) (fun x hx => by
              simp at hx
              rcases hx with rfl | rfl
              · dsimp only; omega
              · dsimp only; rw [List.length_nil]; omega) p hp
          · exact pairT_len _ _ (by rw [len_seal]; omega) p hp
        · exact boxT_len _ _ (by omega) p hp
      · exact texts_len ckS S [] (by omega) (fun x hx => by cases hx) p hp
    · exact pairT_len _ _ (by rw [len_bind]; omega) p hp
  have hcnt : ∀ (y : List UInt8) (T : List UInt8), (textsL k idS [(S, SB), (y, [])] ++ pairT (rootL k idS) sealParts ++ boxTexts (sealL (rootL k idS)) SB ++ textsL ckS S [] ++ pairT T (bindParts dt)).length ≤ 100 := fun y T => by
    have h1 : (boxTexts (sealL (rootL k idS)) SB).length ≤ 4 := by
      unfold boxTexts
      split
      · simp
      · simp [boxT, pairT]
    simp only [List.length_append, length_textsL, pairT, List.length_cons, List.length_nil]
    omega
  refine ⟨R, S, dt, SB, T1, Tx, Ty, hR, htk, hdis, ?_, ?_, ?_, lR, by omega, ld, by omega, l1, lx, ly, px1.1 rfl, px2.2.1, px2.1, fun he => ?_, fun p hp => ?_, ?_⟩
  · rw [hth]; unfold withL; dsimp only; rw [hT1]; rfl
  · rw [addL_ok (by simp) (by omega)]; unfold withL; dsimp only; rw [hTx]; rfl
  · rw [addL_ok (by simp) (by omega)]; unfold withL; dsimp only; rw [hTy]; rfl
  · have hmx : ∀ p ∈ textsL k idS [(S, SB), (a, [])] ++ pairT Tx (bindParts dt), p ∈ (proveL k ⟨idS, [(S, SB), (a, [])], Tx⟩ [⟨S, [], bindL Ty dt⟩]).1.sum := px2.2.2
    have hmy : ∀ p ∈ textsL k idS [(S, SB), (b, [])] ++ pairT Ty (bindParts dt), p ∈ (proveL k ⟨idS, [(S, SB), (b, [])], Ty⟩ [⟨S, [], bindL Ty dt⟩]).1.sum := py2.2.2
    have hbf : ∀ p ∈ bindParts dt, p.length < 18446744073709551616 := fun p hp => by
      simp [bindParts] at hp
      rcases hp with rfl | rfl
      · decide
      · omega
    rcases pair_clash lx ly hbf hbf he with ⟨hxy, _⟩ | hc
    · have hn : nextL T1 (a, []) = nextL T1 (b, []) := by rw [hTx, hTy, hxy]
      rcases pair_clash l1 l1 (fits_next (x := (a, [])) ⟨by dsimp only; omega, by simp⟩) (fits_next (x := (b, [])) ⟨by dsimp only; omega, by simp⟩) hn with ⟨_, h⟩ | hc
      · have h2 := next_inj h
        exact absurd (congrArg Prod.fst h2) hab
      · have e1 : lastL k idS [(S, SB)] = T1 := by rw [← hT1, ← hR]; rfl
        have sxx : textsL k idS [(S, SB), (a, [])] = textsL k idS [(S, SB)] ++ pairT T1 (nextParts (a, [])) := by rw [← e1]; exact textsL_snoc k idS [(S, SB)] (a, [])
        have syy : textsL k idS [(S, SB), (b, [])] = textsL k idS [(S, SB)] ++ pairT T1 (nextParts (b, [])) := by rw [← e1]; exact textsL_snoc k idS [(S, SB)] (b, [])
        refine hc.more fun p hp => ?_
        rcases List.mem_append.1 hp with hp | hp
        · exact List.mem_append_left _ (hmx p (List.mem_append_left _ (by rw [sxx]; exact List.mem_append_right _ hp)))
        · exact List.mem_append_right _ (hmy p (List.mem_append_left _ (by rw [syy]; exact List.mem_append_right _ hp)))
    · refine hc.more fun p hp => ?_
      rcases List.mem_append.1 hp with hp | hp
      · exact List.mem_append_left _ (hmx p (List.mem_append_right _ hp))
      · exact List.mem_append_right _ (hmy p (List.mem_append_right _ hp))
  · rcases List.mem_append.1 hp with hp | hp
    · rw [sx] at hp; exact hlen a Tx ha lx p hp
    · rw [sy] at hp; exact hlen b Ty hb ly p hp
  · rw [sx, sy]; exact ⟨hcnt a Tx, hcnt b Ty⟩
end Go.Proofs.YtejhiekikblbiaaGreatDoor
