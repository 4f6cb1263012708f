/-
  The verification's reference: a third party's link. No condition.
-/
import Derived.Test.YtejhiekikblbiaaGreatDoorRpF
namespace Go.Proofs.YtejhiekikblbiaaGreatDoor
open Go.RowKit

set_option maxRecDepth 100000 in
set_option maxHeartbeats 16000000 in
theorem rpThird {id tag : List UInt8} {A : Option Addr} {c : Nat} {l : List LinkL} {Am : Option Addr} {cm : Nat} {more : List TokA} {w : World} {X : PrL × Nat} {M : List TokL} {Rs : PrL} {Rb : Bool} {j f' q xn : Nat} {x x' : PvA} {s : PrL} {L : List PvA} {vt vs : Value} {gk ck gg cg cu lb : Nat} {Au : Option Addr} {ya yb : List UInt8} {W25 : World}
    {Q : Exit → Act → World → Prop} {K : Act → World → Prop} {z0 z1 z2 z6 z12 z13 z14 z15 z16 z17 z18 z19 z20 z21 z22 z23 z24 z25 z26 z27 z28 z29 z30 z31 z32 z33 z34 z35 z36 z37 z38 z39 z40 z41 z42 z43 z44 z45 z46 z47 z48 z49 z50 z51 z52 z53 z54 z55 z56 z57 z58 z59 z60 z61 z62 z63 z64 z65 z66 z67 z68 z69 z70 z71 z72 z73 z74 z75 z76 z77 z78 z79 z80 z81 z82 z83 z84 z85 z86 z87 z88 z89 z90 z91 z92 z93 z94 z95 z96 z97 z98 z99 z100 z101 z102 z103 z104 z105 z106 z107 z108 z109 z110 z111 z112 z113 z114 z115 z116 z117 z118 z119 z120 z121 z122 z123 z124 z125 z126 z127 z128 z129 z130 z131 z132 z133 z134 z135 z136 z137 z138 z139 z140 z141 z142 z143 z144 z145 z146 z147 z148 z149 z150 z151 z152 z153 z154 z155 z156 z157 z158 z159 z160 z161 z162 z163 z164 z165 z166 z167 z168 z169 z170 z171 z172 z173 z174 z175 z176 z177 z178 z179 z180 z181 z182 z183 z184 z185 z186 z187 z188 z189 z190 z191 z192 z193 z194 z195 z196 z197 z198 z199 z200 z201 z202 z203 z204 z205 z206 z207 z208 z209 z210 z211 z212 z213 z214 z215 z216 z217 z218 z219 z220 z221 z222 z223 z224 z225 z226 z227 z228 z229 z230 z231 z232 z233 z234 z235 z236 z237 z238 z239 z240 z241 z242 z243 z244 z245 z246 z247 z248 z249 z250 z251 z252 z253 z254 z255 z256 z257 z258 z259 z260 z261 z262 z263 z264 z265 z266 z267 z268 z269 z270 z271 z272 z273 z274 z275 z276 z277 : Value}
    (hn : more.length ≤ 10000) (hm8 : more.length ≤ 8) (ht10 : tag.length ≤ 10000) (htx : s.texts.length ≤ 64 * j + q) (hsu : s.sum.length ≤ 200 + 200 * (64 * j + q)) (hLe : L.length ≤ more.length + 1) (hlt : j < L.length) (hx64 : xn ≤ 64) (hqn : q < xn) (hql : q < x.t.l.length) (hMl : M.length = more.length) (hRw : Rs.work ≤ 2000)
    (HM : Kp (RdToks w w.heap.size (.slice Am more.length cm) more)) (HML : Kp (∀ d ∈ more, OkT d)) (HMD : Kp (∀ d ∈ more.map TokA.plain, d.links.length ≤ 64)) (HMM : Kp (more.map TokA.plain = M))
    (HXR : Kp (X = (Rs, if (Rb && Rs.used.all _root_.id) = true then 0 else 11))) (HXN : Kp (x.t.l.length = xn)) (hsz : Kp (SizeOk M s)) (HSX : Kp (s.list[j]? = some (x.k, x.t.plain)))
    (hx' : L[j] = x') (hxm' : x' ∈ L) (hpe : x'.plain = (x.k, x.t.plain)) (hk' : x'.k = x.k) (hi' : x'.t.id = x.t.id) (hl' : x'.t.l = x.t.l) (hyo : (ya, yb).1.length ≤ 10000 ∧ (ya, yb).2.length ≤ 10000)
    (hstep : Kp (restGo tag M f' j (if yb = [] then linksL tag M ⟨s.used, s.list, s.texts ++ [ya], s.work, s.sum⟩ (foldT (rootL x.k x.t.id) (x.t.l.take (q + 1))) (x.t.l.drop (q + 1)) else
      if (thirdL tag M s (foldT (rootL x.k x.t.id) (x.t.l.take q)) (ya, yb)).2 = true then linksL tag M (thirdL tag M s (foldT (rootL x.k x.t.id) (x.t.l.take q)) (ya, yb)).1 (foldT (rootL x.k x.t.id) (x.t.l.take (q + 1))) (x.t.l.drop (q + 1)) else ((thirdL tag M s (foldT (rootL x.k x.t.id) (x.t.l.take q)) (ya, yb)).1, false)) = (Rs, Rb)))
    (D25 : Arr W25 lb 72 [.string (ofL ya), .string (ofL yb)])
    (S25 : RpSt w W25 ⟨id, tag, A, c, l⟩ (.slice Am more.length cm) more s (L.map PvA.t) L L (.slice Au more.length cu) vt vs (.slice (some ⟨gk, 0, none⟩) L.length ck) (.slice (some ⟨gg, 0, none⟩) L.length cg) (rpBx (.slice Au more.length cu) vt s.work 0 vs))
    (hsw25 : w.heap.size ≤ W25.heap.size) (hresl : w.heap.size + 1 + 1 < lb) (hyb : ¬ yb = [])
    (hN : Kp (∀ {y12 y13 y14 y15 y16 y17 y118 y119 y120 y121 y122 y123 y124 y125 y126 y127 y128 y129 y130 y131 y132 y133 y134 y135 y136 y137 y138 y139 y140 y141 y142 y143 y144 y145 y146 y147 y148 y149 y150 y151 y152 y153 y154 y155 y156 y157 y158 y159 y160 y161 y162 y163 y164 y165 y166 y167 y168 y169 y170 y171 y172 y173 y174 y175 y176 y177 y178 y179 y180 y181 y182 y183 y184 y185 y186 y187 y188 y189 y190 y191 y192 y193 y194 y195 y196 y197 y198 y199 y200 y201 y202 y203 y204 y205 y206 y207 y208 y209 y210 y211 y212 y213 y214 y215 y216 y217 y218 y219 y220 y221 y222 y223 y224 y225 y226 y227 y228 y229 y230 y231 y232 y233 y234 y235 y236 y237 y238 y239 y240 y241 y242 y243 y244 y245 y246 y247 y248 y249 y250 y251 y252 y253 y254 y255 y256 y257 y258 y259 y260 y261 y262 : Value} (s' : PrL) (L' : List PvA) (vs' vk' vg' : Value) (w' : World), s'.texts.length ≤ 64 * j + (q + 1) → s'.sum.length ≤ 200 + 200 * (64 * j + (q + 1)) → RpSt w w' ⟨id, tag, A, c, l⟩ (.slice Am more.length cm) more s' (L'.map PvA.t) L' L' (.slice Au more.length cu) vt vs' vk' vg' (rpBx (.slice Au more.length cu) vt s'.work 0 vs') → restGo tag M f' j (linksL tag M s' (foldT (rootL x.k x.t.id) (x.t.l.take (q + 1))) (x.t.l.drop (q + 1))) = (Rs, Rb) → SizeOk M s' → s'.list[j]? = some (x.k, x.t.plain) → Q .normal ⟨#[z0, z1, z2, .pointer (some ⟨w.heap.size, 0, none⟩), .pointer (some ⟨w.heap.size + 1, 0, none⟩), .pointer (some ⟨w.heap.size + 1 + 1, 0, none⟩), z6, vg', vk', .int .i64 j, .int .i64 q, .pointer (some ⟨lb, 0, none⟩), y12, y13, y14, y15, y16, y17, z18, z19, z20, z21, z22, z23, z24, z25, z26, z27, z28, z29, z30, z31, z32, z33, z34, z35, z36, z37, z38, z39, z40, z41, z42, z43, z44, z45, z46, z47, z48, z49, z50, z51, z52, z53, z54, z55, z56, z57, z58, z59, z60, z61, z62, z63, z64, z65, z66, z67, z68, z69, z70, z71, z72, z73, z74, z75, z76, z77, z78, z79, z80, z81, z82, z83, z84, z85, z86, z87, z88, z89, z90, z91, z92, z93, z94, z95, z96, z97, z98, z99, z100, z101, z102, z103, z104, z105, z106, z107, z108, z109, z110, z111, z112, z113, z114, z115, z116, z117, y118, y119, y120, y121, y122, y123, y124, y125, y126, y127, y128, y129, y130, y131, y132, y133, y134, y135, y136, y137, y138, y139, y140, y141, y142, y143, y144, y145, y146, y147, y148, y149, y150, y151, y152, y153, y154, y155, y156, y157, y158, y159, y160, y161, y162, y163, y164, y165, y166, y167, y168, y169, y170, y171, y172, y173, y174, y175, y176, y177, y178, y179, y180, y181, y182, y183, y184, y185, y186, y187, y188, y189, y190, y191, y192, y193, y194, y195, y196, y197, y198, y199, y200, y201, y202, y203, y204, y205, y206, y207, y208, y209, y210, y211, y212, y213, y214, y215, y216, y217, y218, y219, y220, y221, y222, y223, y224, y225, y226, y227, y228, y229, y230, y231, y232, y233, y234, y235, y236, y237, y238, y239, y240, y241, y242, y243, y244, y245, y246, y247, y248, y249, y250, y251, y252, y253, y254, y255, y256, y257, y258, y259, y260, y261, y262, z263, z264, z265, z266, z267, z268, z269, z270, z271, z272, z273, z274, z275, z276, z277], []⟩ w'))
    (hR : Kp (∀ a' w', bodyPost Tryz.prog Tryz.f19 (RpPost w X) .ret a' w' → Q .ret a' w'))
    (hK : ∀ a w, Code.wp Tryz.prog (rpCode [1, 1, 1, 1, 1, 1, 1, 1, 1, 1, 0, 1, 4, 4, 1, 0, 4, 1, 4, 4, 1, 0, 4, 1, 1, 1]) Q a w → K a w) :
    Code.wp Tryz.prog (rpCode [1, 1, 1, 1, 1, 1, 1, 1, 1, 1, 0, 1, 4, 4, 1, 0, 4, 1, 4, 4, 1, 0, 4, 1, 1, 0]) (Exit.then K Q) ⟨#[z0, z1, z2, .pointer (some ⟨w.heap.size, 0, none⟩), .pointer (some ⟨w.heap.size + 1, 0, none⟩), .pointer (some ⟨w.heap.size + 1 + 1, 0, none⟩), z6, .slice (some ⟨gg, 0, none⟩) L.length cg, .slice (some ⟨gk, 0, none⟩) L.length ck, .int .i64 j, .int .i64 q, .pointer (some ⟨lb, 0, none⟩), z12, z13, z14, z15, z16, z17, z18, z19, z20, z21, z22, z23, z24, z25, z26, z27, z28, z29, z30, z31, z32, z33, z34, z35, z36, z37, z38, z39, z40, z41, z42, z43, z44, z45, z46, z47, z48, z49, z50, z51, z52, z53, z54, z55, z56, z57, z58, z59, z60, z61, z62, z63, z64, z65, z66, z67, z68, z69, z70, z71, z72, z73, z74, z75, z76, z77, z78, z79, z80, z81, z82, z83, z84, z85, z86, z87, z88, z89, z90, z91, z92, z93, z94, z95, z96, z97, z98, z99, z100, z101, z102, z103, z104, z105, z106, z107, z108, z109, z110, z111, z112, z113, z114, z115, z116, z117, z118, z119, z120, z121, z122, z123, z124, z125, z126, z127, z128, z129, z130, z131, z132, z133, z134, z135, z136, z137, z138, z139, z140, z141, z142, z143, z144, z145, z146, z147, z148, z149, z150, z151, z152, z153, z154, z155, z156, z157, z158, z159, z160, z161, z162, z163, z164, z165, z166, z167, z168, z169, z170, z171, z172, z173, z174, z175, z176, z177, z178, z179, z180, z181, z182, z183, z184, z185, z186, z187, z188, z189, z190, z191, z192, z193, z194, z195, z196, z197, z198, z199, z200, z201, z202, z203, z204, z205, z206, z207, z208, z209, z210, z211, z212, z213, z214, z215, z216, z217, z218, z219, z220, z221, z222, z223, z224, z225, z226, z227, z228, z229, z230, z231, z232, z233, z234, z235, z236, z237, z238, z239, z240, z241, z242, z243, z244, z245, z246, z247, z248, z249, z250, z251, z252, z253, z254, z255, z256, z257, z258, z259, z260, z261, z262, z263, z264, z265, z266, z267, z268, z269, z270, z271, z272, z273, z274, z275, z276, z277], []⟩ W25 := by
  have l0 := D25.cell 0; have l1 := D25.cell 1
  simp only [List.getElem?_cons_zero, List.getElem?_cons_succ] at l0 l1
  conv => arg 2; whnf
  conv at hK => intro a w; arg 1; arg 2; whnf
  have hst2 := Kp.mk (show restGo tag M f' j (if (thirdL tag M s (foldT (rootL x.k x.t.id) (x.t.l.take q)) (ya, yb)).2 = true then linksL tag M (thirdL tag M s (foldT (rootL x.k x.t.id) (x.t.l.take q)) (ya, yb)).1 (foldT (rootL x.k x.t.id) (x.t.l.take (q + 1))) (x.t.l.drop (q + 1)) else ((thirdL tag M s (foldT (rootL x.k x.t.id) (x.t.l.take q)) (ya, yb)).1, false)) = (Rs, Rb) by have h := hstep.out; rw [if_neg hyb] at h; exact h)
  have dyb : yb.isEmpty = false := isEmpty_ne hyb
  have hyo2 : ya.length ≤ 10000 ∧ yb.length ≤ 10000 := hyo
  obtain ⟨TG, hTG⟩ : ∃ TG, foldT (rootL x.k x.t.id) (x.t.l.take q) = TG := ⟨_, rfl⟩
  have lTG : TG.length = 32 := by rw [← hTG]; exact length_lastL x.k x.t.id _
  have htg2 : (tagsL x.k x.t.id x.t.l)[q]? = some TG := by rw [tagsL_get x.k x.t.id x.t.l q (by rw [HXN.out]; omega), ← hTG]; rfl
  rw [hTG] at hst2
  have hwk : s.work ≤ 2000 := by
    have h := congrArg (fun p : PrL × Bool => p.1.work) hst2.out
    have h1 := restGo_rise (T := tag) (more := M) (f := f') (i := j) (x := (if (thirdL tag M s TG (ya, yb)).2 = true then linksL tag M (thirdL tag M s TG (ya, yb)).1 (foldT (rootL x.k x.t.id) (x.t.l.take (q + 1))) (x.t.l.drop (q + 1)) else ((thirdL tag M s TG (ya, yb)).1, false)))
    have h2 : s.work ≤ (if (thirdL tag M s TG (ya, yb)).2 = true then linksL tag M (thirdL tag M s TG (ya, yb)).1 (foldT (rootL x.k x.t.id) (x.t.l.take (q + 1))) (x.t.l.drop (q + 1)) else ((thirdL tag M s TG (ya, yb)).1, false)).1.work := by
      split
      · exact Nat.le_trans third_rise (links_rise _ _ _)
      · exact third_rise
    dsimp only at h
    omega
  obtain ⟨SL, hSL⟩ : ∃ SL, sealL TG = SL := ⟨_, rfl⟩
  have lSL : SL.length = 32 := by rw [← hSL]; exact length_partsL _ _
  obtain ⟨⟨ok, oe⟩, hO⟩ : ∃ O, openR SL yb = O := ⟨_, rfl⟩
  have hokl : ok.length ≤ 10000 := by have h := openR_bound SL yb; rw [hO] at h; dsimp only at h; omega
  have hfailX : ∀ r : PrL, thirdL tag M s TG (ya, yb) = (r, false) → X = (r, 11) := fun r h => by
    have h2 := hst2.out
    rw [h] at h2
    have h2 : (r, false) = (Rs, Rb) := h2
    have h3 : Rs = r := (congrArg Prod.fst h2).symm
    have h4 : Rb = false := (congrArg Prod.snd h2).symm
    rw [HXR.out, h3, h4]; rfl
  have hgoX := Kp.mk (show ∀ r : PrL, thirdL tag M s TG (ya, yb) = (r, true) → restGo tag M f' j (linksL tag M r (foldT (rootL x.k x.t.id) (x.t.l.take (q + 1))) (x.t.l.drop (q + 1))) = (Rs, Rb) from fun r h => by
    have h2 := hst2.out
    rw [h] at h2
    exact h2)
  obtain ⟨sm, hsm⟩ : ∃ sm, s.sum ++ pairT TG sealParts ++ boxTexts SL yb = sm := ⟨_, rfl⟩
  have hask : askL s TG yb = ⟨s.used, s.list, s.texts, s.work + 1, sm⟩ := by unfold askL; rw [hSL, hsm]
  have HA1 := Kp.mk (show oe ≠ 0 → X = (⟨s.used, s.list, s.texts, s.work + 1, sm⟩, 11) from fun h => by
    rw [← hask]; exact hfailX _ (thirdL_shut (by show (openR (sealL TG) yb).2 ≠ 0; rw [hSL, hO]; exact h))
    )
  have HA2 := Kp.mk (show oe = 0 → findL ya M s.used = none → X = (⟨s.used, s.list, s.texts, s.work + 1, sm⟩, 11) from fun h h2 => by
    rw [← hask]; exact hfailX _ (thirdL_none (by show (openR (sealL TG) yb).2 = 0; rw [hSL, hO]; exact h) h2))
  have HA3 := Kp.mk (show oe = 0 → ∀ i d, findL ya M s.used = some i → M[i]? = some d → thirdL tag M s TG (ya, yb) = useL tag ⟨s.used, s.list, s.texts, s.work + 1, sm⟩ ok i d from fun h i d h2 h3 => by
    have h4 := thirdL_use (T := tag) (more := M) (s := s) (tag := TG) (l := (ya, yb)) (i := i) (d := d) (by show (openR (sealL TG) yb).2 = 0; rw [hSL, hO]; exact h) h2 h3
    rw [h4, hask]
    show useL tag _ (openR (sealL TG) yb).1 i d = _
    rw [hSL, hO])
  have hfailX := Kp.mk hfailX
  have cSP := Kp.mk (show ∀ W, Calls Tryz.prog 51 #[] W fun e w' => ∃ v, e = .returned v ∧ Ext W w' ∧ Rd w' w'.heap.size 1 v 1 (sealParts.map Str) from fun W => (rsealParts_any W).mono fun e w' ⟨v, h1, h2, h3⟩ => ⟨v, h1, h3, Rd.own h2 (by decide)⟩)
  have cPS := Kp.mk (show ∀ W v, Rd W W.heap.size 1 v 1 (sealParts.map Str) → Calls Tryz.prog 43 #[.string (ofL TG), v] W fun e w' => e = .returned (.string (ofL SL)) ∧ Ext W w' from fun W v h => by rw [← hSL]; exact rparts_any TG sealParts v W (by omega) h (by rw [len_seal]; omega))
  have cFS := Kp.mk (show ∀ W v, Rd W W.heap.size 1 v 1 (sealParts.map Str) → Calls Tryz.prog 38 #[v] W fun e w' => e = .returned (.string (ofL (frameL sealParts))) ∧ Ext W w' from fun W v h => rframe_any sealParts v W h (by rw [len_seal]; omega))
  have cTX := Kp.mk (show ∀ W, Calls Tryz.prog 52 #[.string (ofL TG), .string (ofL (frameL sealParts))] W fun e w' => ∃ v, e = .returned v ∧ Ext W w' ∧ Rd w' w'.heap.size 1 v 2 ((pairT TG sealParts).map Str) from fun W => (rtexts_any TG (frameL sealParts) W (by omega) (by rw [len_seal]; omega)).mono fun e w' ⟨v, h1, h2, h3⟩ => ⟨v, h1, h3, Rd.own h2 (by decide)⟩)
  obtain ⟨nb, hnb⟩ : ∃ nb, (boxTexts SL yb).length = nb := ⟨_, rfl⟩
  have hnb4 : nb ≤ 4 := by rw [← hnb]; exact length_boxTexts SL yb
  have cBT := Kp.mk (show ∀ W, Calls Tryz.prog 53 #[.string (ofL SL), .string (ofL yb)] W fun e w' => ∃ v, e = .returned v ∧ Ext W w' ∧ Rd w' w'.heap.size 1 v nb ((boxTexts SL yb).map Str) from fun W => by rw [← hnb]; exact rbt_any SL yb W (by omega))
  have cOP := Kp.mk (show ∀ W, Calls Tryz.prog 41 #[.string (ofL SL), .string (ofL yb)] W fun e w' => e = .returned (.tuple #[.string (ofL ok), .int .i64 oe]) ∧ Ext W w' from fun W => by
    have h := ropen_box SL yb W (by omega)
    rw [hO] at h
    exact h)
  have HSMM := Kp.mk hsm; have HNB := Kp.mk hnb
  clear hstep hpe hyo hql hTG hSL hO hask hst2 hsm hnb
  obtain ⟨Asm, csm, rfl⟩ := own_slice S25.sum
  have q2 := S25.box.cell 2; have z2 := S25.box.frozen 2
  rw [(rpBx_get _ _ _ _ _).2.2.1] at q2
  have S28 := (S25.set 2 (.int .i64 ((s.work : Int) + 1))).bxe (bx' := rpBx (.slice Au more.length cu) vt (s.work + 1) 0 (.slice Asm s.sum.length csm)) rfl
  obtain ⟨W28, hW28⟩ : ∃ W28 : World, W28 = W25.setCell ⟨w.heap.size + 1 + 1, 2, none⟩ (.int .i64 ((s.work : Int) + 1)) := ⟨_, rfl⟩
  have D28 : Arr W28 lb 72 [.string (ofL ya), .string (ofL yb)] := by rw [hW28]; exact D25.other _ (by have := hresl; omega)
  rw [← hW28] at S28
  have HW28 := Kp.mk hW28
  clear hW28 D25
  go_upto_region 29 with fail
  rw [← HW28.out]
  clear HW28 S25 q2 z2 l0 l1
  have C3 := Kp.mk (show ∀ W, Ext W28 W → W.cell? ⟨gg, j, none⟩ = some (.slice (some ⟨x'.g, 0, none⟩) (xn + 1) x'.c) from fun W hW => by
    have h := (S28.up hW).tags.cellAt j (by omega)
    rw [List.getElem?_map, List.getElem?_eq_getElem hlt, hx'] at h
    rw [h]
    show some (tagRef x') = _
    unfold tagRef
    rw [hl', HXN.out])
  have C4 := Kp.mk (show ∀ W, Ext W28 W → W.cell? ⟨x'.g, q, none⟩ = some (.string (ofL TG)) from fun W hW => by
    have h := ((S28.up hW).each x' hxm').1.cellAt q (by rw [hl', HXN.out]; omega)
    rw [hk', hi', hl', List.getElem?_map, htg2] at h
    exact h)
  clear hx' hxm' hk' hi' hl' htg2
  refine wp_region_localsE (fun i v W => match i with
    | 0 => v = .slice (some ⟨gg, 0, none⟩) L.length cg
    | 1 => v = .int .i64 j
    | 2 => v = .pointer (some ⟨gg, j, none⟩)
    | 3 => v = .slice (some ⟨x'.g, 0, none⟩) (xn + 1) x'.c
    | 4 => v = .int .i64 q
    | 5 => v = .pointer (some ⟨x'.g, q, none⟩)
    | 6 => v = .string (ofL TG)
    | 7 => Rd W W.heap.size 1 v 1 (sealParts.map Str)
    | 8 => v = .string (ofL SL)
    | 9 => v = .string (ofL SL)
    | _ => True) (by kernel_rfl) (by kernel_rfl) (by kernel_rfl) (by kernel_rfl) ?_ ?_ ?_
  · intro i v W1 W2 e1 e2 h
    match i, h with
    | 0, h => exact h
    | 1, h => exact h
    | 2, h => exact h
    | 3, h => exact h
    | 4, h => exact h
    | 5, h => exact h
    | 6, h => exact h
    | 7, h => exact rd_at h e2
    | 8, h => exact h
    | 9, h => exact h
    | (i + 10), h => exact h
  · intro HF
    refine locals_cons (fun u W hW hd => ?_) ?_
    · refine opLeaves_ev HF rfl fun ev zc zg zf zt => ?_
      have t7 : ev (.tmp 7) = .slice (some ⟨gg, 0, none⟩) L.length cg := zt 7
      clear zt
      exact ev_val (v := .slice (some ⟨gg, 0, none⟩) L.length cg) (by go_simp) rfl
    refine locals_cons (fun u W hW hd => ?_) ?_
    · refine opLeaves_ev HF rfl fun ev zc zg zf zt => ?_
      have t9 : ev (.tmp 9) = .int .i64 j := zt 9
      clear zt
      exact ev_val (v := .int .i64 j) (by go_simp) rfl
    refine locals_cons (fun u W hW hd => ?_) ?_
    · refine opLeaves_ev HF rfl fun ev zc zg zf zt => ?_
      have t122 : ev (.tmp 122) = u 0 := zt 122
      have t123 : ev (.tmp 123) = u 1 := zt 123
      clear zt
      have h0 : u 0 = _ := hd 0 (by kernel_rfl)
      have h1 : u 1 = _ := hd 1 (by kernel_rfl)
      exact ev_val (v := .pointer (some ⟨gg, j, none⟩)) (by go_simp) rfl
    refine locals_cons (fun u W hW hd => ?_) ?_
    · refine opLeaves_ev HF rfl fun ev zc zg zf zt => ?_
      have t124 : ev (.tmp 124) = u 2 := zt 124
      clear zt
      have h2 : u 2 = _ := hd 2 (by kernel_rfl)
      have r3 := C3.out W hW
      exact ev_val (v := .slice (some ⟨x'.g, 0, none⟩) (xn + 1) x'.c) (by go_simp) rfl
    refine locals_cons (fun u W hW hd => ?_) ?_
    · refine opLeaves_ev HF rfl fun ev zc zg zf zt => ?_
      have t10 : ev (.tmp 10) = .int .i64 q := zt 10
      clear zt
      exact ev_val (v := .int .i64 q) (by go_simp) rfl
    refine locals_cons (fun u W hW hd => ?_) ?_
    · refine opLeaves_ev HF rfl fun ev zc zg zf zt => ?_
      have t125 : ev (.tmp 125) = u 3 := zt 125
      have t126 : ev (.tmp 126) = u 4 := zt 126
      clear zt
      have h3 : u 3 = _ := hd 3 (by kernel_rfl)
      have h4 : u 4 = _ := hd 4 (by kernel_rfl)
      exact ev_val (v := .pointer (some ⟨x'.g, q, none⟩)) (by go_simp; omega) rfl
    refine locals_cons (fun u W hW hd => ?_) ?_
    · refine opLeaves_ev HF rfl fun ev zc zg zf zt => ?_
      have t127 : ev (.tmp 127) = u 5 := zt 127
      clear zt
      have h5 : u 5 = _ := hd 5 (by kernel_rfl)
      have r4 := C4.out W hW
      exact ev_val (v := .string (ofL TG)) (by go_simp) rfl
    refine locals_cons (fun u W hW hd => ?_) ?_
    · refine opLeaves_ev HF rfl fun ev zc zg zf zt => ?_
      clear zt
      exact ev_call (f := 51) (args := #[]) (by go_simp) (cSP.out W)
    refine locals_cons (fun u W hW hd => ?_) ?_
    · refine opLeaves_ev HF rfl fun ev zc zg zf zt => ?_
      have t128 : ev (.tmp 128) = u 6 := zt 128
      have t129 : ev (.tmp 129) = u 7 := zt 129
      clear zt
      have h6 : u 6 = _ := hd 6 (by kernel_rfl)
      have h7 := hd 7 (by kernel_rfl)
      exact ev_call (f := 43) (args := #[.string (ofL TG), u 7]) (by go_simp) ((cPS.out W _ h7).mono (by rintro e9 W9 ⟨rfl, h9⟩; exact ⟨_, rfl, h9, rfl⟩))
    refine locals_cons (fun u W hW hd => ?_) locals_nil
    · refine opLeaves_ev HF rfl fun ev zc zg zf zt => ?_
      have t130 : ev (.tmp 130) = u 8 := zt 130
      clear zt
      have h8 : u 8 = _ := hd 8 (by kernel_rfl)
      exact ev_val (v := .string (ofL SL)) (by go_simp) rfl
  · intro u29 W29 hW29 hV
    have h9 : u29 9 = _ := hV 9 (by decide)
    clear hV cPS
    have S29 := S28.up hW29
    have D29 := D28.ext hW29 D28.lt
    have C3 := Kp.mk (fun W (hW : Ext W29 W) => C3.out W (hW29.tr hW))
    have C4 := Kp.mk (fun W (hW : Ext W29 W) => C4.out W (hW29.tr hW))
    clear S28 D28 hW29
    go_simp
    go_upto_region 30 with fail
    have hbx := S29.box
    refine wp_region_tailsE (fun i v W => match i with
      | 0 => v = .pointer (some ⟨w.heap.size + 1 + 1, 4, none⟩)
      | 1 => v = .slice Asm s.sum.length csm
      | 2 => v = .slice (some ⟨gg, 0, none⟩) L.length cg
      | 3 => v = .int .i64 j
      | 4 => v = .pointer (some ⟨gg, j, none⟩)
      | 5 => v = .slice (some ⟨x'.g, 0, none⟩) (xn + 1) x'.c
      | 6 => v = .int .i64 q
      | 7 => v = .pointer (some ⟨x'.g, q, none⟩)
      | 8 => v = .string (ofL TG)
      | 9 => Rd W W.heap.size 1 v 1 (sealParts.map Str)
      | 10 => v = .string (ofL (frameL sealParts))
      | 11 => Rd W W.heap.size 1 v 2 ((pairT TG sealParts).map Str)
      | _ => True) 12 (by kernel_rfl) (by kernel_rfl) (by kernel_rfl) (by decide) (by kernel_rfl) (by kernel_rfl) (by kernel_rfl) (by kernel_rfl) ?_ ?_ ?_
    · intro i v W1 W2 e1 e2 h
      match i, h with
      | 0, h => exact h
      | 1, h => exact h
      | 2, h => exact h
      | 3, h => exact h
      | 4, h => exact h
      | 5, h => exact h
      | 6, h => exact h
      | 7, h => exact h
      | 8, h => exact h
      | 9, h => exact rd_at h e2
      | 10, h => exact h
      | 11, h => exact rd_at h e2
      | (i + 12), h => exact h
    · intro HF
      refine localsR_cons (fun u W hW hd => ?_) ?_
      · refine opLeaves_ev HF rfl fun ev zc zg zf zt => ?_
        have t5 : ev (.tmp 5) = .pointer (some ⟨w.heap.size + 1 + 1, 0, none⟩) := zt 5
        clear zt
        exact ev_val (v := .pointer (some ⟨w.heap.size + 1 + 1, 4, none⟩)) (by go_simp) rfl
      refine localsR_cons (fun u W hW hd => ?_) ?_
      · refine opLeaves_ev HF rfl fun ev zc zg zf zt => ?_
        have t131 : ev (.tmp 131) = u 0 := zt 131
        clear zt
        have h0 : u 0 = _ := hd 0 (by kernel_rfl)
        have q4 := (hbx.ext hW hbx.lt).cell 4
        rw [(rpBx_get _ _ _ _ _).2.2.2.2] at q4
        exact ev_val (v := .slice Asm s.sum.length csm) (by go_simp) rfl
      refine localsR_cons (fun u W hW hd => ?_) ?_
      · refine opLeaves_ev HF rfl fun ev zc zg zf zt => ?_
        have t7 : ev (.tmp 7) = .slice (some ⟨gg, 0, none⟩) L.length cg := zt 7
        clear zt
        exact ev_val (v := .slice (some ⟨gg, 0, none⟩) L.length cg) (by go_simp) rfl
      refine localsR_cons (fun u W hW hd => ?_) ?_
      · refine opLeaves_ev HF rfl fun ev zc zg zf zt => ?_
        have t9 : ev (.tmp 9) = .int .i64 j := zt 9
        clear zt
        exact ev_val (v := .int .i64 j) (by go_simp) rfl
      refine localsR_cons (fun u W hW hd => ?_) ?_
      · refine opLeaves_ev HF rfl fun ev zc zg zf zt => ?_
        have t133 : ev (.tmp 133) = u 2 := zt 133
        have t134 : ev (.tmp 134) = u 3 := zt 134
        clear zt
        have h2 : u 2 = _ := hd 2 (by kernel_rfl)
        have h3 : u 3 = _ := hd 3 (by kernel_rfl)
        exact ev_val (v := .pointer (some ⟨gg, j, none⟩)) (by go_simp) rfl
      refine localsR_cons (fun u W hW hd => ?_) ?_
      · refine opLeaves_ev HF rfl fun ev zc zg zf zt => ?_
        have t135 : ev (.tmp 135) = u 4 := zt 135
        clear zt
        have h4 : u 4 = _ := hd 4 (by kernel_rfl)
        have r3 := C3.out W hW
        exact ev_val (v := .slice (some ⟨x'.g, 0, none⟩) (xn + 1) x'.c) (by go_simp) rfl
      refine localsR_cons (fun u W hW hd => ?_) ?_
      · refine opLeaves_ev HF rfl fun ev zc zg zf zt => ?_
        have t10 : ev (.tmp 10) = .int .i64 q := zt 10
        clear zt
        exact ev_val (v := .int .i64 q) (by go_simp) rfl
      refine localsR_cons (fun u W hW hd => ?_) ?_
      · refine opLeaves_ev HF rfl fun ev zc zg zf zt => ?_
        have t136 : ev (.tmp 136) = u 5 := zt 136
        have t137 : ev (.tmp 137) = u 6 := zt 137
        clear zt
        have h5 : u 5 = _ := hd 5 (by kernel_rfl)
        have h6 : u 6 = _ := hd 6 (by kernel_rfl)
        exact ev_val (v := .pointer (some ⟨x'.g, q, none⟩)) (by go_simp; omega) rfl
      refine localsR_cons (fun u W hW hd => ?_) ?_
      · refine opLeaves_ev HF rfl fun ev zc zg zf zt => ?_
        have t138 : ev (.tmp 138) = u 7 := zt 138
        clear zt
        have h7 : u 7 = _ := hd 7 (by kernel_rfl)
        have r4 := C4.out W hW
        exact ev_val (v := .string (ofL TG)) (by go_simp) rfl
      refine localsR_cons (fun u W hW hd => ?_) ?_
      · refine opLeaves_ev HF rfl fun ev zc zg zf zt => ?_
        clear zt
        exact ev_call (f := 51) (args := #[]) (by go_simp) (cSP.out W)
      refine localsR_cons (fun u W hW hd => ?_) ?_
      · refine opLeaves_ev HF rfl fun ev zc zg zf zt => ?_
        have t140 : ev (.tmp 140) = u 9 := zt 140
        clear zt
        have h9 := hd 9 (by kernel_rfl)
        exact ev_call (f := 38) (args := #[u 9]) (by go_simp) ((cFS.out W _ h9).mono (by rintro e9 W9 ⟨rfl, h9⟩; exact ⟨_, rfl, h9, rfl⟩))
      refine localsR_cons (fun u W hW hd => ?_) localsR_nil
      · refine opLeaves_ev HF rfl fun ev zc zg zf zt => ?_
        have t139 : ev (.tmp 139) = u 8 := zt 139
        have t141 : ev (.tmp 141) = u 10 := zt 141
        clear zt
        have h8 : u 8 = _ := hd 8 (by kernel_rfl)
        have h10 : u 10 = _ := hd 10 (by kernel_rfl)
        exact ev_call (f := 52) (args := #[.string (ofL TG), .string (ofL (frameL sealParts))]) (by go_simp) (cTX.out W)
    · intro u30 W30 hW30 hV
      have h1 : u30 1 = _ := hV 1 (by decide)
      have h11 := hV 11 (by decide)
      clear hV hbx C3 C4 cSP cFS cTX
      have S30 := S29.up hW30
      have D30 := D29.ext hW30 D29.lt
      clear S29 D29 hW30
      refine wpl_app_rd_blk Tryz.elemStr rfl _ _ rfl S30.sum (vx := u30 11) (by go_simp) (by go_simp) h11 (oneCell_str _) (by omega) (by omega) (by have := S30.ext.size; omega) ?_
      intro v31 w31 own31 hg31 hn31
      have S31 := S30.summed (xs := pairT TG sealParts) own31 hg31 hn31
      have D31 := arr_kept_type D30 S30.sum (by decide) hg31
      obtain ⟨A31, c31, hv31⟩ := own_slice own31
      subst hv31
      have q4 := S31.box.cell 4; have z4 := S31.box.frozen 4
      rw [(rpBx_get _ _ _ _ _).2.2.2.2] at q4
      have S32 := (S31.set 4 (.slice A31 (s.sum.length + 2) c31)).bxe (bx' := rpBx (.slice Au more.length cu) vt (s.work + 1) 0 (.slice A31 (s.sum.length + 2) c31)) rfl
      obtain ⟨W32, hW32⟩ : ∃ W32 : World, W32 = w31.setCell ⟨w.heap.size + 1 + 1, 4, none⟩ (.slice A31 (s.sum.length + 2) c31) := ⟨_, rfl⟩
      have D32 : Arr W32 lb 72 [.string (ofL ya), .string (ofL yb)] := by rw [hW32]; exact D31.other _ (by have := hresl; omega)
      rw [← hW32] at S32
      have HW32 := Kp.mk hW32
      clear own31 hg31 hn31 S30 D30 D31 hW32
      go_upto_region 31 with fail
      rw [← HW32.out]
      clear HW32 S31 q4 z4
      have hbx := S32.box
      refine wp_region_tailsE (fun i v W => match i with
        | 0 => v = .pointer (some ⟨w.heap.size + 1 + 1, 4, none⟩)
        | 1 => v = .slice A31 (s.sum.length + 2) c31
        | 2 => v = .string (ofL SL)
        | 3 => v = .pointer (some ⟨lb, 1, none⟩)
        | 4 => v = .string (ofL yb)
        | 5 => Rd W W.heap.size 1 v nb ((boxTexts SL yb).map Str)
        | _ => True) 6 (by kernel_rfl) (by kernel_rfl) (by kernel_rfl) (by decide) (by kernel_rfl) (by kernel_rfl) (by kernel_rfl) (by kernel_rfl) ?_ ?_ ?_
      · intro i v W1 W2 e1 e2 h
        match i, h with
        | 0, h => exact h
        | 1, h => exact h
        | 2, h => exact h
        | 3, h => exact h
        | 4, h => exact h
        | 5, h => exact rd_at h e2
        | (i + 6), h => exact h
      · intro HF
        refine localsR_cons (fun u W hW hd => ?_) ?_
        · refine opLeaves_ev HF rfl fun ev zc zg zf zt => ?_
          have t5 : ev (.tmp 5) = .pointer (some ⟨w.heap.size + 1 + 1, 0, none⟩) := zt 5
          clear zt
          exact ev_val (v := .pointer (some ⟨w.heap.size + 1 + 1, 4, none⟩)) (by go_simp) rfl
        refine localsR_cons (fun u W hW hd => ?_) ?_
        · refine opLeaves_ev HF rfl fun ev zc zg zf zt => ?_
          have t145 : ev (.tmp 145) = u 0 := zt 145
          clear zt
          have h0 : u 0 = _ := hd 0 (by kernel_rfl)
          have q4 := (hbx.ext hW hbx.lt).cell 4
          rw [(rpBx_get _ _ _ _ _).2.2.2.2] at q4
          exact ev_val (v := .slice A31 (s.sum.length + 2) c31) (by go_simp) rfl
        refine localsR_cons (fun u W hW hd => ?_) ?_
        · refine opLeaves_ev HF rfl fun ev zc zg zf zt => ?_
          have t12 : ev (.tmp 12) = .string (ofL SL) := zt 12
          clear zt
          exact ev_val (v := .string (ofL SL)) (by go_simp) rfl
        refine localsR_cons (fun u W hW hd => ?_) ?_
        · refine opLeaves_ev HF rfl fun ev zc zg zf zt => ?_
          have t11 : ev (.tmp 11) = .pointer (some ⟨lb, 0, none⟩) := zt 11
          clear zt
          exact ev_val (v := .pointer (some ⟨lb, 1, none⟩)) (by go_simp) rfl
        refine localsR_cons (fun u W hW hd => ?_) ?_
        · refine opLeaves_ev HF rfl fun ev zc zg zf zt => ?_
          have t148 : ev (.tmp 148) = u 3 := zt 148
          clear zt
          have h3 : u 3 = _ := hd 3 (by kernel_rfl)
          have l1 := (D32.ext hW D32.lt).cell 1
          simp only [List.getElem?_cons_zero, List.getElem?_cons_succ] at l1
          exact ev_val (v := .string (ofL yb)) (by go_simp) rfl
        refine localsR_cons (fun u W hW hd => ?_) localsR_nil
        · refine opLeaves_ev HF rfl fun ev zc zg zf zt => ?_
          have t147 : ev (.tmp 147) = u 2 := zt 147
          have t149 : ev (.tmp 149) = u 4 := zt 149
          clear zt
          have h2 : u 2 = _ := hd 2 (by kernel_rfl)
          have h4 : u 4 = _ := hd 4 (by kernel_rfl)
          exact ev_call (f := 53) (args := #[.string (ofL SL), .string (ofL yb)]) (by go_simp) (cBT.out W)
      · intro u31 W33 hW33 hV
        have h1b : u31 1 = _ := hV 1 (by decide)
        have h5 := hV 5 (by decide)
        clear hV hbx cBT
        have S33 := S32.up hW33
        have D33 := D32.ext hW33 D32.lt
        clear S32 D32 hW33
        have hsl : (s.sum ++ pairT TG sealParts).length = s.sum.length + 2 := by rw [List.length_append]; rfl
        have hown := own_eq S33.sum rfl hsl
        refine wpl_app_rd_blk Tryz.elemStr rfl _ _ rfl hown (vx := u31 5) (by go_simp) (by go_simp) h5 (oneCell_str _) (by omega) (by omega) (by have := S33.ext.size; omega) ?_
        intro v34 w34 own34 hg34 hn34
        have S34 := S33.summed (xs := boxTexts SL yb) (own_eq own34 rfl (by rw [HNB.out, hsl])) hg34 hn34
        have D34 := arr_kept_type D33 S33.sum (by decide) hg34
        obtain ⟨A34, c34, hv34⟩ := own_slice own34
        subst hv34
        dsimp only at S34
        rw [HSMM.out] at S34
        obtain ⟨nn, hnn⟩ : ∃ nn, s.sum.length + 2 + nb = nn := ⟨_, rfl⟩
        have hsml : sm.length = nn := by rw [← HSMM.out, List.length_append, hsl, HNB.out, hnn]
        rw [hnn] at S34 own34
        have q4 := S34.box.cell 4; have z4 := S34.box.frozen 4
        rw [(rpBx_get _ _ _ _ _).2.2.2.2] at q4
        have S35 := (S34.set 4 (.slice A34 nn c34)).bxe (bx' := rpBx (.slice Au more.length cu) vt (s.work + 1) 0 (.slice A34 nn c34)) rfl
        obtain ⟨W35, hW35⟩ : ∃ W35 : World, W35 = w34.setCell ⟨w.heap.size + 1 + 1, 4, none⟩ (.slice A34 nn c34) := ⟨_, rfl⟩
        have D35 : Arr W35 lb 72 [.string (ofL ya), .string (ofL yb)] := by rw [hW35]; exact D34.other _ (by have := hresl; omega)
        rw [← hW35] at S35
        have HW35 := Kp.mk hW35
        have hnnb : nn ≤ s.sum.length + 6 := by omega
        have HNN := Kp.mk hnn
        clear own34 hg34 hn34 S33 D33 D34 hW35 hown hnn hsl
        rw [HNN.out]
        go_upto_region 32 with fail
        rw [← HW35.out]
        clear HW35 S34 q4 z4
        have l1 := D35.cell 1
        simp only [List.getElem?_cons_zero, List.getElem?_cons_succ] at l1
        go_wp2_with fail
        refine (cOP.out _).mono ?_
        rintro e w36 ⟨rfl, E36⟩
        have S36 := S35.up E36
        have D36 := D35.ext E36 D35.lt
        clear S35 D35 E36 l1 cOP
        clear hresl
        by_cases hoe : oe = 0
        · subst hoe
          have hMu : M.length = s.used.length := by have h1 := hsz.out.1; omega
          have b3 := S36.bun.cell 3
          simp only [List.getElem?_cons_zero, List.getElem?_cons_succ] at b3
          go_wp2_with fail
          go_loopw [16, 15] (fun nv av wv => ∃ (mm : Nat) (r : Option Nat), nv = .int .i64 ((mm : Int) - 1) ∧ av = atV r ∧ mm ≤ more.length ∧ Found M s.used ya mm r ∧ Ext w36 wv) (fun nv _ _ => (intOf nv + 1).toNat)
          case atStart => exact ⟨more.length, none, rfl, rfl, Nat.le_refl _, Found.start M s.used ya (by omega), Ext.rfl' _⟩
          case round =>
            clear b3
            obtain ⟨mm, r, rfl, rfl, hmm, hF0, hE⟩ := hrel
            have hF := Kp.mk hF0
            clear hF0
            have S37 := S36.up hE
            have D37 := D36.ext hE D36.lt
            have hE0 := Kp.mk hE
            clear S36 D36 hE
            by_cases hm0 : mm = 0
            · subst hm0
              have hfd := hF.out.done hMu
              have dneg : decide ((0 : Int) ≤ ((0 : Nat) : Int) - 1) = false := by decide
              cases r with
              | none =>
                have HFX := Kp.mk (HA2.out (by trivial) hfd)
                clear HA1 HA2 HA3 hF hfd hgoX hfailX D37
                unfold atV
                dsimp only
                obtain ⟨wf, rfl⟩ : ∃ wf, wf = wr := ⟨_, rfl⟩
                have hS := S37
                clear S37
                obtain ⟨At, cat, rfl⟩ := own_slice hS.texts
                have q3 := hS.box.cell 3; have z3 := hS.box.frozen 3
                rw [(rpBx_get _ _ _ _ _).2.2.2.1] at q3
                have hS9 := (hS.set 3 (.int .i64 11)).bxe (bx' := rpBx _ _ _ 11 _) rfl
                obtain ⟨Wf, hWf⟩ : ∃ Wf : World, Wf = wf.setCell ⟨w.heap.size + 1 + 1, 3, none⟩ (.int .i64 11) := ⟨_, rfl⟩
                rw [← hWf] at hS9
                have HWf := Kp.mk hWf
                have hX := HFX.out
                clear hS hWf HFX
                go_upto_region 41 with fail
                rw [← HWf.out]
                have hS := hS9
                subst hX
                clear hS9 q3 z3 HWf
                have q0 := hS.box.cell 0; have q1 := hS.box.cell 1; have q2 := hS.box.cell 2; have q3 := hS.box.cell 3; have q4 := hS.box.cell 4
                have y0 := hS.res.cell 0; have y1 := hS.res.cell 1; have y2 := hS.res.cell 2; have y3 := hS.res.cell 3; have y4 := hS.res.cell 4
                have z0 := hS.res.frozen 0; have z1 := hS.res.frozen 1; have z2 := hS.res.frozen 2; have z3 := hS.res.frozen 3; have z4 := hS.res.frozen 4
                simp only [rpBx, rp0, List.getElem?_cons_zero, List.getElem?_cons_succ] at q0 q1 q2 q3 q4 y0 y1 y2 y3 y4
                go_wp2
                obtain ⟨_, rfl, hA', o1, o2, o3, E'⟩ := hS.five
                exact hR.out _ _ (bodyPost_ret (results_cell_row rfl _ _ (w.heap.size + 1) _ _ _ _ rfl hA' Tryz.underlying47 rfl (by kernel_rfl)) rfl ⟨_, _, _, rfl, o1, o2, o3, E'⟩)
              | some ix =>
                obtain ⟨hi, hui, d0, hd0, hdi⟩ := findL_some hfd
                rw [hMl] at hi
                have HU := Kp.mk (HA3.out (by trivial) ix d0 hfd hd0)
                obtain ⟨bm, om, hAm, -, hcm⟩ := HM.out.tok ix hi
                subst hAm
                obtain ⟨d, hd⟩ : ∃ d, more[ix] = d := ⟨_, rfl⟩
                have hdm : d ∈ more := by rw [← hd]; exact List.getElem_mem hi
                rw [hd] at hcm
                have hd0 : d0 = d.plain := by
                  rw [← HMM.out, List.getElem?_map, List.getElem?_eq_getElem hi, hd] at hd0
                  exact (Option.some.inj hd0).symm
                subst hd0
                have hdo := HML.out d hdm
                have hd64 : d.l.length ≤ 64 := HMD.out d.plain (List.mem_map_of_mem hdm)
                have hdr := HM.out.2 d hdm
                obtain ⟨di, dt, dA, dc, dl⟩ := d
                have HDS := Kp.mk (show Short1 dl from hdo.short)
                have hdo1 : di.length ≤ 10000 := hdo.1
                have hdo2 : dt.length ≤ 10000 := hdo.2.1
                dsimp only at hd64 hdr hcm
                obtain ⟨dn, hdn⟩ : ∃ dn, dl.length = dn := ⟨_, rfl⟩
                have HMD0 := Kp.mk hdr
                rw [hdn] at hcm hd64
                clear hdr
                have HDN := Kp.mk hdn
                have HCM := Kp.mk hcm
                have HDM := Kp.mk hdm
                clear HA1 HA2 HA3 hF hfd hui hd hdm hd0 hdi hdo hcm hdn
                obtain ⟨gu, rfl⟩ : ∃ gu, Au = some ⟨gu, 0, none⟩ := by
                  rcases S37.used.2 with ⟨h, _⟩ | ⟨gu, cap, cur, h, _⟩
                  · injection h with h1 h2 h3
                    omega
                  · injection h with h1 h2 h3
                    exact ⟨gu, h1⟩
                have hown := own_eq S37.used rfl (show s.used.length = more.length by omega)
                dsimp only at hown
                have uc := hown.cellAt ix (by omega)
                have uz := hown.frozenAt ix
                obtain ⟨uo, huo⟩ : ∃ uo, (s.used.map Value.bool)[ix]? = some uo := ⟨_, List.getElem?_eq_getElem (by rw [List.length_map]; omega)⟩
                rw [huo] at uc
                have q0 := S37.box.cell 0
                rw [(rpBx_get _ _ _ _ _).1] at q0
                have S42 := S37.mark rfl ix
                obtain ⟨W42, hW42⟩ : ∃ W42 : World, W42 = wr.setCell ⟨gu, ix, none⟩ (.bool true) := ⟨_, rfl⟩
                rw [← hW42] at S42
                have HW42 := Kp.mk hW42
                unfold atV
                dsimp only
                clear hW42 hown huo D37 S37
                go_upto_region 43 with fail
                rw [← HW42.out]
                clear HW42 uc uz q0
                rename_i hK3
                exact rpFound hn hm8 ht10 htx hsu hLe hlt hx64 hqn hwk hsml hnnb hd64 hokl hdo1 hdo2 hi HMD0 HDS HDN HCM HDM hsz HSX HU hfailX hgoX (S42.of rfl rfl rfl rfl) ⟨fun s' L' vs' vk' vg' w' h1 h2 h3 h4 h5 h6 => hN.out s' L' vs' vk' vg' w' h1 h2 h3 h4 h5 h6⟩ hR hK3
            · obtain ⟨mp, rfl⟩ : ∃ mp, mm = mp + 1 := ⟨mm - 1, by omega⟩
              have hmpl : mp < more.length := by omega
              have hmi : (((mp + 1 : Nat) : Int) - 1) = (mp : Int) := by omega
              have dpos : decide ((0 : Int) ≤ (mp : Int)) = true := by simp
              obtain ⟨bm, om, hAm, -, hcm⟩ := HM.out.tok mp hmpl
              subst hAm
              obtain ⟨d, hd⟩ : ∃ d, more[mp] = d := ⟨_, rfl⟩
              rw [hd] at hcm
              have hMd : M[mp]? = some d.plain := by rw [← HMM.out, List.getElem?_map, List.getElem?_eq_getElem hmpl, hd]; rfl
              obtain ⟨gu, rfl⟩ : ∃ gu, Au = some ⟨gu, 0, none⟩ := by
                rcases S37.used.2 with ⟨h, _⟩ | ⟨gu, cap, cur, h, _⟩
                · injection h with h1 h2 h3
                  omega
                · injection h with h1 h2 h3
                  exact ⟨gu, h1⟩
              have hown := own_eq S37.used rfl (show s.used.length = more.length by omega)
              dsimp only at hown
              have hul : mp < s.used.length := by omega
              obtain ⟨ub, hub⟩ : ∃ ub, s.used[mp] = ub := ⟨_, rfl⟩
              have hus : s.used[mp]? = some ub := by rw [List.getElem?_eq_getElem hul, hub]
              have UC := Kp.mk (show ∀ W, Ext wr W → W.cell? ⟨gu, mp, none⟩ = some (.bool ub) from fun W hW => by
                have h := (own_ext hown (fun j _ hj => hW.block j hj)).cellAt mp (by omega)
                rw [bool_cell hul, hub] at h
                exact h)
              have HCM := Kp.mk (show ∀ W, Ext wr W → _ from fun W hW => hcm W (S37.ext.tr hW))
              have hbx := S37.box
              have hbun := S37.bun
              have b3 := hbun.cell 3
              simp only [List.getElem?_cons_zero, List.getElem?_cons_succ] at b3
              have HMD2 := Kp.mk hMd; have HUS := Kp.mk hus
              obtain ⟨di, dt, dA, dc, dl⟩ := d
              have HE := Kp.mk S37.ext
              clear hcm hd hMd hown hub hus S37
              rw [hmi]
              cases ub with
              | true =>
                have hF2 := Kp.mk (hF.out.skip (fun d hd hu => by rw [HUS.out] at hu; cases hu))
                clear hF HMD2
                go_upto_region 37 with fail
                refine wp_region_localsE (fun i v W => match i with
                  | 0 => v = .pointer (some ⟨w.heap.size + 1 + 1, 0, none⟩)
                  | 1 => v = .slice (some ⟨gu, 0, none⟩) more.length cu
                  | 2 => v = .int .i64 mp
                  | 3 => v = .pointer (some ⟨gu, mp, none⟩)
                  | 4 => v = .bool true
                  | 5 => v = .bool false
                  | 6 => v = .bool false
                  | 7 => v = undef
                  | 8 => v = undef
                  | 9 => v = undef
                  | 10 => v = undef
                  | 11 => v = undef
                  | 12 => v = undef
                  | 13 => v = undef
                  | 14 => v = undef
                  | 15 => v = undef
                  | 16 => v = .bool false
                  | _ => True) (by kernel_rfl) (by kernel_rfl) (by kernel_rfl) (by kernel_rfl) ?_ ?_ ?_
                · intro i v W1 W2 e1 e2 h
                  match i, h with
                  | 0, h => exact h
                  | 1, h => exact h
                  | 2, h => exact h
                  | 3, h => exact h
                  | 4, h => exact h
                  | 5, h => exact h
                  | 6, h => exact h
                  | 7, h => exact h
                  | 8, h => exact h
                  | 9, h => exact h
                  | 10, h => exact h
                  | 11, h => exact h
                  | 12, h => exact h
                  | 13, h => exact h
                  | 14, h => exact h
                  | 15, h => exact h
                  | 16, h => exact h
                  | (i + 17), h => exact h
                · intro HF
                  refine locals_cons (fun u W hW hd => ?_) ?_
                  · refine opLeaves_ev HF rfl fun ev zc zg zf zt => ?_
                    have t5 : ev (.tmp 5) = .pointer (some ⟨w.heap.size + 1 + 1, 0, none⟩) := zt 5
                    clear zt
                    exact ev_val (v := .pointer (some ⟨w.heap.size + 1 + 1, 0, none⟩)) (by go_simp) rfl
                  refine locals_cons (fun u W hW hd => ?_) ?_
                  · refine opLeaves_ev HF rfl fun ev zc zg zf zt => ?_
                    have t172 : ev (.tmp 172) = u 0 := zt 172
                    clear zt
                    have h0 : u 0 = _ := hd 0 (by kernel_rfl)
                    have q0 := (hbx.ext hW hbx.lt).cell 0
                    rw [(rpBx_get _ _ _ _ _).1] at q0
                    exact ev_val (v := .slice (some ⟨gu, 0, none⟩) more.length cu) (by go_simp) rfl
                  refine locals_cons (fun u W hW hd => ?_) ?_
                  · refine opLeaves_ev HF rfl fun ev zc zg zf zt => ?_
                    have t16 : ev (.tmp 16) = .int .i64 mp := zt 16
                    clear zt
                    exact ev_val (v := .int .i64 mp) (by go_simp) rfl
                  refine locals_cons (fun u W hW hd => ?_) ?_
                  · refine opLeaves_ev HF rfl fun ev zc zg zf zt => ?_
                    have t173 : ev (.tmp 173) = u 1 := zt 173
                    have t174 : ev (.tmp 174) = u 2 := zt 174
                    clear zt
                    have h1 : u 1 = _ := hd 1 (by kernel_rfl)
                    have h2 : u 2 = _ := hd 2 (by kernel_rfl)
                    exact ev_val (v := .pointer (some ⟨gu, mp, none⟩)) (by go_simp) rfl
                  refine locals_cons (fun u W hW hd => ?_) ?_
                  · refine opLeaves_ev HF rfl fun ev zc zg zf zt => ?_
                    have t175 : ev (.tmp 175) = u 3 := zt 175
                    clear zt
                    have h3 : u 3 = _ := hd 3 (by kernel_rfl)
                    have uc := UC.out W hW
                    exact ev_val (v := .bool true) (by go_simp) rfl
                  refine locals_cons (fun u W hW hd => ?_) ?_
                  · refine opLeaves_ev HF rfl fun ev zc zg zf zt => ?_
                    have t176 : ev (.tmp 176) = u 4 := zt 176
                    clear zt
                    have h4 : u 4 = _ := hd 4 (by kernel_rfl)
                    exact ev_val (v := .bool false) (by go_simp) rfl
                  refine locals_cons (fun u W hW hd => ?_) ?_
                  · refine opLeaves_ev HF rfl fun ev zc zg zf zt => ?_
                    have t177 : ev (.tmp 177) = u 5 := zt 177
                    clear zt
                    have h5 : u 5 = _ := hd 5 (by kernel_rfl)
                    exact ev_val (v := .bool false) (by go_simp) rfl
                  refine locals_cons (fun u W hW hd => ?_) ?_
                  · have h6 : u 6 = _ := hd 6 (by kernel_rfl)
                    exact .inr ⟨by simp [Region.wanted, yielded, go_sem, h6], rfl⟩
                  refine locals_cons (fun u W hW hd => ?_) ?_
                  · have h6 : u 6 = _ := hd 6 (by kernel_rfl)
                    exact .inr ⟨by simp [Region.wanted, yielded, go_sem, h6], rfl⟩
                  refine locals_cons (fun u W hW hd => ?_) ?_
                  · have h6 : u 6 = _ := hd 6 (by kernel_rfl)
                    exact .inr ⟨by simp [Region.wanted, yielded, go_sem, h6], rfl⟩
                  refine locals_cons (fun u W hW hd => ?_) ?_
                  · have h6 : u 6 = _ := hd 6 (by kernel_rfl)
                    exact .inr ⟨by simp [Region.wanted, yielded, go_sem, h6], rfl⟩
                  refine locals_cons (fun u W hW hd => ?_) ?_
                  · have h6 : u 6 = _ := hd 6 (by kernel_rfl)
                    exact .inr ⟨by simp [Region.wanted, yielded, go_sem, h6], rfl⟩
                  refine locals_cons (fun u W hW hd => ?_) ?_
                  · have h6 : u 6 = _ := hd 6 (by kernel_rfl)
                    exact .inr ⟨by simp [Region.wanted, yielded, go_sem, h6], rfl⟩
                  refine locals_cons (fun u W hW hd => ?_) ?_
                  · have h6 : u 6 = _ := hd 6 (by kernel_rfl)
                    exact .inr ⟨by simp [Region.wanted, yielded, go_sem, h6], rfl⟩
                  refine locals_cons (fun u W hW hd => ?_) ?_
                  · have h6 : u 6 = _ := hd 6 (by kernel_rfl)
                    exact .inr ⟨by simp [Region.wanted, yielded, go_sem, h6], rfl⟩
                  refine locals_cons (fun u W hW hd => ?_) ?_
                  · have h6 : u 6 = _ := hd 6 (by kernel_rfl)
                    exact .inr ⟨by simp [Region.wanted, yielded, go_sem, h6], rfl⟩
                  refine locals_cons (fun u W hW hd => ?_) locals_nil
                  · refine opLeaves_ev HF rfl fun ev zc zg zf zt => ?_
                    have t178 : ev (.tmp 178) = u 6 := zt 178
                    have t187 : ev (.tmp 187) = u 15 := zt 187
                    clear zt
                    have h6 : u 6 = _ := hd 6 (by kernel_rfl)
                    have h15 : u 15 = _ := hd 15 (by kernel_rfl)
                    exact ev_val (v := .bool false) (by go_simp) rfl
                · intro u37 W38 hW38 hV
                  have h16 : u37 16 = .bool false := hV 16 (by decide)
                  clear hV hbx hbun UC HCM b3
                  go_simp
                  go_wp2
                  go_roundw
                  case rel => exact ⟨mp, r, by go_num, rfl, by omega, hF2.out, hE0.out.tr hW38⟩
                  case measure => first | (simp [intOf]; done) | (simp [intOf]; omega)
              | false =>
                have hF2 := Kp.mk (show di = ya → Found M s.used ya mp (some mp) from fun h => Found.hit HMD2.out HUS.out h)
                have hF3 := Kp.mk (show di ≠ ya → Found M s.used ya mp r from fun h => hF.out.skip (fun d hd _ => by
                  rw [HMD2.out] at hd
                  obtain rfl := Option.some.inj hd
                  exact h))
                clear hF HMD2
                go_upto_region 37 with fail
                refine wp_region_localsE (fun i v W => match i with
                  | 0 => v = .pointer (some ⟨w.heap.size + 1 + 1, 0, none⟩)
                  | 1 => v = .slice (some ⟨gu, 0, none⟩) more.length cu
                  | 2 => v = .int .i64 mp
                  | 3 => v = .pointer (some ⟨gu, mp, none⟩)
                  | 4 => v = .bool false
                  | 5 => v = .bool true
                  | 6 => v = .bool true
                  | 7 => v = .pointer (some ⟨w.heap.size, 3, none⟩)
                  | 8 => v = .slice (some ⟨bm, om, none⟩) more.length cm
                  | 9 => v = .int .i64 mp
                  | 10 => v = .pointer (some ⟨bm, om + mp * 3, none⟩)
                  | 11 => v = .pointer (some ⟨bm, om + mp * 3, none⟩)
                  | 12 => v = .string (ofL di)
                  | 13 => v = .pointer (some ⟨lb, 0, none⟩)
                  | 14 => v = .string (ofL ya)
                  | 15 => v = .bool (di == ya)
                  | 16 => v = .bool (di == ya)
                  | _ => True) (by kernel_rfl) (by kernel_rfl) (by kernel_rfl) (by kernel_rfl) ?_ ?_ ?_
                · intro i v W1 W2 e1 e2 h
                  match i, h with
                  | 0, h => exact h
                  | 1, h => exact h
                  | 2, h => exact h
                  | 3, h => exact h
                  | 4, h => exact h
                  | 5, h => exact h
                  | 6, h => exact h
                  | 7, h => exact h
                  | 8, h => exact h
                  | 9, h => exact h
                  | 10, h => exact h
                  | 11, h => exact h
                  | 12, h => exact h
                  | 13, h => exact h
                  | 14, h => exact h
                  | 15, h => exact h
                  | 16, h => exact h
                  | (i + 17), h => exact h
                · intro HF
                  refine locals_cons (fun u W hW hd => ?_) ?_
                  · refine opLeaves_ev HF rfl fun ev zc zg zf zt => ?_
                    have t5 : ev (.tmp 5) = .pointer (some ⟨w.heap.size + 1 + 1, 0, none⟩) := zt 5
                    clear zt
                    exact ev_val (v := .pointer (some ⟨w.heap.size + 1 + 1, 0, none⟩)) (by go_simp) rfl
                  refine locals_cons (fun u W hW hd => ?_) ?_
                  · refine opLeaves_ev HF rfl fun ev zc zg zf zt => ?_
                    have t172 : ev (.tmp 172) = u 0 := zt 172
                    clear zt
                    have h0 : u 0 = _ := hd 0 (by kernel_rfl)
                    have q0 := (hbx.ext hW hbx.lt).cell 0
                    rw [(rpBx_get _ _ _ _ _).1] at q0
                    exact ev_val (v := .slice (some ⟨gu, 0, none⟩) more.length cu) (by go_simp) rfl
                  refine locals_cons (fun u W hW hd => ?_) ?_
                  · refine opLeaves_ev HF rfl fun ev zc zg zf zt => ?_
                    have t16 : ev (.tmp 16) = .int .i64 mp := zt 16
                    clear zt
                    exact ev_val (v := .int .i64 mp) (by go_simp) rfl
                  refine locals_cons (fun u W hW hd => ?_) ?_
                  · refine opLeaves_ev HF rfl fun ev zc zg zf zt => ?_
                    have t173 : ev (.tmp 173) = u 1 := zt 173
                    have t174 : ev (.tmp 174) = u 2 := zt 174
                    clear zt
                    have h1 : u 1 = _ := hd 1 (by kernel_rfl)
                    have h2 : u 2 = _ := hd 2 (by kernel_rfl)
                    exact ev_val (v := .pointer (some ⟨gu, mp, none⟩)) (by go_simp) rfl
                  refine locals_cons (fun u W hW hd => ?_) ?_
                  · refine opLeaves_ev HF rfl fun ev zc zg zf zt => ?_
                    have t175 : ev (.tmp 175) = u 3 := zt 175
                    clear zt
                    have h3 : u 3 = _ := hd 3 (by kernel_rfl)
                    have uc := UC.out W hW
                    exact ev_val (v := .bool false) (by go_simp) rfl
                  refine locals_cons (fun u W hW hd => ?_) ?_
                  · refine opLeaves_ev HF rfl fun ev zc zg zf zt => ?_
                    have t176 : ev (.tmp 176) = u 4 := zt 176
                    clear zt
                    have h4 : u 4 = _ := hd 4 (by kernel_rfl)
                    exact ev_val (v := .bool true) (by go_simp) rfl
                  refine locals_cons (fun u W hW hd => ?_) ?_
                  · refine opLeaves_ev HF rfl fun ev zc zg zf zt => ?_
                    have t177 : ev (.tmp 177) = u 5 := zt 177
                    clear zt
                    have h5 : u 5 = _ := hd 5 (by kernel_rfl)
                    exact ev_val (v := .bool true) (by go_simp) rfl
                  refine locals_cons (fun u W hW hd => ?_) ?_
                  · have h6 : u 6 = _ := hd 6 (by kernel_rfl)
                    exact leaves_val (by simp [Region.wanted, yielded, go_sem, h6]) (v := .pointer (some ⟨w.heap.size, 3, none⟩)) (by go_simp) rfl
                  refine locals_cons (fun u W hW hd => ?_) ?_
                  · have h6 : u 6 = _ := hd 6 (by kernel_rfl)
                    have h7 : u 7 = _ := hd 7 (by kernel_rfl)
                    have b3 := (hbun.ext hW hbun.lt).cell 3
                    simp only [List.getElem?_cons_zero, List.getElem?_cons_succ] at b3
                    exact leaves_val (by simp [Region.wanted, yielded, go_sem, h6]) (v := .slice (some ⟨bm, om, none⟩) more.length cm) (by go_simp) rfl
                  refine locals_cons (fun u W hW hd => ?_) ?_
                  · have h6 : u 6 = _ := hd 6 (by kernel_rfl)
                    exact leaves_val (by simp [Region.wanted, yielded, go_sem, h6]) (v := .int .i64 mp) (by go_simp) rfl
                  refine locals_cons (fun u W hW hd => ?_) ?_
                  · have h6 : u 6 = _ := hd 6 (by kernel_rfl)
                    have h8 : u 8 = _ := hd 8 (by kernel_rfl)
                    have h9 : u 9 = _ := hd 9 (by kernel_rfl)
                    exact leaves_val (by simp [Region.wanted, yielded, go_sem, h6]) (v := .pointer (some ⟨bm, om + mp * 3, none⟩)) (by go_simp) rfl
                  refine locals_cons (fun u W hW hd => ?_) ?_
                  · have h6 : u 6 = _ := hd 6 (by kernel_rfl)
                    have h10 : u 10 = _ := hd 10 (by kernel_rfl)
                    exact leaves_val (by simp [Region.wanted, yielded, go_sem, h6]) (v := .pointer (some ⟨bm, om + mp * 3, none⟩)) (by go_simp) rfl
                  refine locals_cons (fun u W hW hd => ?_) ?_
                  · have h6 : u 6 = _ := hd 6 (by kernel_rfl)
                    have h11 : u 11 = _ := hd 11 (by kernel_rfl)
                    obtain ⟨c0, c1, c2⟩ := HCM.out W hW
                    exact leaves_val (by simp [Region.wanted, yielded, go_sem, h6]) (v := .string (ofL di)) (by go_simp) rfl
                  refine locals_cons (fun u W hW hd => ?_) ?_
                  · have h6 : u 6 = _ := hd 6 (by kernel_rfl)
                    exact leaves_val (by simp [Region.wanted, yielded, go_sem, h6]) (v := .pointer (some ⟨lb, 0, none⟩)) (by go_simp) rfl
                  refine locals_cons (fun u W hW hd => ?_) ?_
                  · have h6 : u 6 = _ := hd 6 (by kernel_rfl)
                    have h13 : u 13 = _ := hd 13 (by kernel_rfl)
                    have l0 := (D37.ext hW D37.lt).cell 0
                    simp only [List.getElem?_cons_zero, List.getElem?_cons_succ] at l0
                    exact leaves_val (by simp [Region.wanted, yielded, go_sem, h6]) (v := .string (ofL ya)) (by go_simp) rfl
                  refine locals_cons (fun u W hW hd => ?_) ?_
                  · have h6 : u 6 = _ := hd 6 (by kernel_rfl)
                    have h12 : u 12 = _ := hd 12 (by kernel_rfl)
                    have h14 : u 14 = _ := hd 14 (by kernel_rfl)
                    exact leaves_val (by simp [Region.wanted, yielded, go_sem, h6]) (v := .bool (di == ya)) (by go_simp) rfl
                  refine locals_cons (fun u W hW hd => ?_) locals_nil
                  · refine opLeaves_ev HF rfl fun ev zc zg zf zt => ?_
                    have t178 : ev (.tmp 178) = u 6 := zt 178
                    have t187 : ev (.tmp 187) = u 15 := zt 187
                    clear zt
                    have h6 : u 6 = _ := hd 6 (by kernel_rfl)
                    have h15 : u 15 = _ := hd 15 (by kernel_rfl)
                    exact ev_val (v := .bool (di == ya)) (by go_simp) rfl
                · intro u37 W38 hW38 hV
                  have h16 : u37 16 = .bool (di == ya) := hV 16 (by decide)
                  clear hV hbx hbun UC HCM b3
                  by_cases hid : di = ya
                  · have t1 : (di == ya) = true := by simp [hid]
                    have hF4 := Kp.mk (hF2.out hid)
                    rw [t1] at h16
                    clear t1 hid hF2 hF3
                    go_simp
                    go_wp2
                    go_roundw
                    case rel => exact ⟨mp, some mp, by go_num, rfl, by omega, hF4.out, hE0.out.tr hW38⟩
                    case measure => first | (simp [intOf]; done) | (simp [intOf]; omega)
                  · have t1 : (di == ya) = false := by simp [hid]
                    have hF4 := Kp.mk (hF3.out hid)
                    rw [t1] at h16
                    clear t1 hid hF2 hF3
                    go_simp
                    go_wp2
                    go_roundw
                    case rel => exact ⟨mp, r, by go_num, rfl, by omega, hF4.out, hE0.out.tr hW38⟩
                    case measure => first | (simp [intOf]; done) | (simp [intOf]; omega)
        · have HFX := Kp.mk (HA1.out hoe)
          have doe : ((oe : Int) == 0) = false := by simp; omega
          have b3 := S36.bun.cell 3
          simp only [List.getElem?_cons_zero, List.getElem?_cons_succ] at b3
          clear HA1 HA2 HA3 hgoX hfailX D36 hoe
          go_wp2_with fail
          go_loopw [16, 15] (fun nv av wv => nv = .int .i64 ((more.length : Int) - 1) ∧ av = .int .i64 (-1) ∧ wv = w36) (fun _ _ _ => 0)
          case atStart => exact ⟨rfl, rfl, rfl⟩
          case round =>
            obtain ⟨rfl, rfl, hwv⟩ := hrel
            subst hwv
            obtain ⟨wf, rfl⟩ : ∃ wf, wf = wr := ⟨_, rfl⟩
            have hS := S36
            clear S36 b3
            by_cases hz : more.length = 0
            · have dneg : decide ((0 : Int) ≤ (more.length : Int) - 1) = false := by rw [hz]; decide
              have dn2 : (more.length : Int) < 1 := by omega
              clear hz
              obtain ⟨At, cat, rfl⟩ := own_slice hS.texts
              have q3 := hS.box.cell 3; have z3 := hS.box.frozen 3
              rw [(rpBx_get _ _ _ _ _).2.2.2.1] at q3
              have hS9 := (hS.set 3 (.int .i64 11)).bxe (bx' := rpBx _ _ _ 11 _) rfl
              obtain ⟨Wf, hWf⟩ : ∃ Wf : World, Wf = wf.setCell ⟨w.heap.size + 1 + 1, 3, none⟩ (.int .i64 11) := ⟨_, rfl⟩
              rw [← hWf] at hS9
              have HWf := Kp.mk hWf
              have hX := HFX.out
              clear hS hWf HFX
              go_upto_region 41 with fail
              rw [← HWf.out]
              have hS := hS9
              subst hX
              clear hS9 q3 z3 HWf
              have q0 := hS.box.cell 0; have q1 := hS.box.cell 1; have q2 := hS.box.cell 2; have q3 := hS.box.cell 3; have q4 := hS.box.cell 4
              have y0 := hS.res.cell 0; have y1 := hS.res.cell 1; have y2 := hS.res.cell 2; have y3 := hS.res.cell 3; have y4 := hS.res.cell 4
              have z0 := hS.res.frozen 0; have z1 := hS.res.frozen 1; have z2 := hS.res.frozen 2; have z3 := hS.res.frozen 3; have z4 := hS.res.frozen 4
              simp only [rpBx, rp0, List.getElem?_cons_zero, List.getElem?_cons_succ] at q0 q1 q2 q3 q4 y0 y1 y2 y3 y4
              go_wp2
              obtain ⟨_, rfl, hA', o1, o2, o3, E'⟩ := hS.five
              exact hR.out _ _ (bodyPost_ret (results_cell_row rfl _ _ (w.heap.size + 1) _ _ _ _ rfl hA' Tryz.underlying47 rfl (by kernel_rfl)) rfl ⟨_, _, _, rfl, o1, o2, o3, E'⟩)
            · have dneg : decide ((0 : Int) ≤ (more.length : Int) - 1) = true := by simp; omega
              have dn2 : ¬ (more.length : Int) < 1 := by omega
              clear hz
              obtain ⟨At, cat, rfl⟩ := own_slice hS.texts
              have q3 := hS.box.cell 3; have z3 := hS.box.frozen 3
              rw [(rpBx_get _ _ _ _ _).2.2.2.1] at q3
              have hS9 := (hS.set 3 (.int .i64 11)).bxe (bx' := rpBx _ _ _ 11 _) rfl
              obtain ⟨Wf, hWf⟩ : ∃ Wf : World, Wf = wf.setCell ⟨w.heap.size + 1 + 1, 3, none⟩ (.int .i64 11) := ⟨_, rfl⟩
              rw [← hWf] at hS9
              have HWf := Kp.mk hWf
              have hX := HFX.out
              clear hS hWf HFX
              go_upto_region 41 with fail
              rw [← HWf.out]
              have hS := hS9
              subst hX
              clear hS9 q3 z3 HWf
              have q0 := hS.box.cell 0; have q1 := hS.box.cell 1; have q2 := hS.box.cell 2; have q3 := hS.box.cell 3; have q4 := hS.box.cell 4
              have y0 := hS.res.cell 0; have y1 := hS.res.cell 1; have y2 := hS.res.cell 2; have y3 := hS.res.cell 3; have y4 := hS.res.cell 4
              have z0 := hS.res.frozen 0; have z1 := hS.res.frozen 1; have z2 := hS.res.frozen 2; have z3 := hS.res.frozen 3; have z4 := hS.res.frozen 4
              simp only [rpBx, rp0, List.getElem?_cons_zero, List.getElem?_cons_succ] at q0 q1 q2 q3 q4 y0 y1 y2 y3 y4
              go_wp2
              obtain ⟨_, rfl, hA', o1, o2, o3, E'⟩ := hS.five
              exact hR.out _ _ (bodyPost_ret (results_cell_row rfl _ _ (w.heap.size + 1) _ _ _ _ rfl hA' Tryz.underlying47 rfl (by kernel_rfl)) rfl ⟨_, _, _, rfl, o1, o2, o3, E'⟩)
end Go.Proofs.YtejhiekikblbiaaGreatDoor
