/-
  The verification's reference: a discharge is found. No condition.
-/
import Derived.Test.YtejhiekikblbiaaGreatDoorRp1
import Derived.Test.YtejhiekikblbiaaGreatDoorMgM
import Derived.Test.YtejhiekikblbiaaGreatDoorInvE
namespace Go.Proofs.YtejhiekikblbiaaGreatDoor
open Go.RowKit

set_option maxRecDepth 100000 in
set_option maxHeartbeats 2000000 in
theorem rbt_any (k s : List UInt8) (w : World) (hk : k.length ≤ 100000) : Calls Tryz.prog 53 #[.string (ofL k), .string (ofL s)] w fun e w' => ∃ v, e = .returned v ∧ Ext w w' ∧ Rd w' w'.heap.size 1 v (boxTexts k s).length ((boxTexts k s).map Str) := by
  by_cases h : s.length < 48 ∨ 4144 < s.length
  · have hb : boxTexts k s = [] := by unfold boxTexts; rw [if_pos h]
    rw [hb]
    have zs : (ofL s).size = s.length := size_ofL _
    by_cases h1 : s.length < 48
    · have d1 : decide ((s.length : Int) < 48) = true := by simp; omega
      clear h hb h1
      go_enter Tryz.func53, Tryz.ntmps53
      go_wp2
      go_ret
      exact ⟨_, rfl, Ext.rfl' _, _, _, rfl, by decide, rfl, fun h => absurd h (by decide)⟩
    · have d1 : decide ((s.length : Int) < 48) = false := by simp; omega
      have d2 : decide ((4144 : Int) < (s.length : Int)) = true := by simp; omega
      clear h hb h1
      go_enter Tryz.func53, Tryz.ntmps53
      go_wp2
      go_ret
      exact ⟨_, rfl, Ext.rfl' _, _, _, rfl, by decide, rfl, fun h => absurd h (by decide)⟩
  · have hb : boxTexts k s = boxT k s := by unfold boxTexts; rw [if_neg h]
    rw [hb]
    exact (rboxTexts_any k s w hk (by omega) (by omega)).mono fun e w' ⟨v, h1, h2, h3⟩ => ⟨v, h1, h3, Rd.own h2 (by decide)⟩
theorem length_boxTexts (k s : List UInt8) : (boxTexts k s).length ≤ 4 := by
  unfold boxTexts
  split
  · simp
  · simp [boxT, pairT]
theorem bool_one : ∀ u ∈ [Value.bool false], u.oneCell' = true := by intro u hu; simp at hu; rw [hu]; rfl
def rpE (b : Bool) : Nat := if b then 3 else 0
def rpF (us : List Bool) (m : Nat) : Nat := if (us.take m).all _root_.id = true then 0 else 11
theorem rpF_zero (us : List Bool) : rpF us 0 = 0 := by simp [rpF]
theorem rpF_true {us : List Bool} {m : Nat} (h : us[m]? = some true) : rpF us (m + 1) = rpF us m := by
  unfold rpF
  rw [List.take_add_one, h, List.all_append]
  simp
theorem rpF_false {us : List Bool} {m : Nat} (h : us[m]? = some false) : rpF us (m + 1) = 11 := by
  unfold rpF
  rw [List.take_add_one, h, List.all_append]
  simp
theorem rpF_all (us : List Bool) {m : Nat} (h : us.length ≤ m) : rpF us m = if us.all _root_.id = true then 0 else 11 := by
  unfold rpF
  rw [List.take_of_length_le h]

/-- A part of a code. -/
def codeAt : List Nat → Code → Code
  | [], c => c
  | 0 :: p, .seq a _ => codeAt p a
  | 1 :: p, .seq _ b => codeAt p b
  | 2 :: p, .cond _ a _ => codeAt p a
  | 3 :: p, .cond _ _ b => codeAt p b
  | 4 :: p, .block _ c => codeAt p c
  | 4 :: p, .loop c => codeAt p c
  | 4 :: p, .scope c => codeAt p c
  | _, c => c
noncomputable def rpCode (p : List Nat) : Code := codeAt p ((Tryz.f19.body).getD .skip)

set_option maxRecDepth 100000 in
set_option maxHeartbeats 16000000 in
theorem rpFound {id tag : List UInt8} {A : Option Addr} {c : Nat} {l : List LinkL} {cm : Nat} {more : List TokA} {w : World} {X : PrL × Nat} {M : List TokL} {Rs : PrL} {Rb : Bool} {j f' q xn : Nat} {x : PvA} {s : PrL} {L : List PvA} {vt : Value} {gk ck gg cg : Nat} {ya yb : List UInt8} {TG ok : List UInt8} {sm : List (List UInt8)} {nn : Nat} {A34 : Option Addr} {c34 : Nat} {ix gu cu bm om : Nat} {di dt : List UInt8} {dA : Option Addr} {dc : Nat} {dl : List LinkL} {dn : Nat} {W42 : World}
    {Q : Exit → Act → World → Prop} {K : Act → World → Prop} {z0 z1 z2 z6 z9 z10 z11 z12 z14 z16 z17 z18 z19 z20 z21 z22 z23 z24 z25 z26 z27 z28 z29 z30 z31 z32 z33 z34 z35 z36 z37 z38 z39 z40 z41 z42 z43 z44 z45 z46 z47 z48 z49 z50 z51 z52 z53 z54 z55 z56 z57 z58 z59 z60 z61 z62 z63 z64 z65 z66 z67 z68 z69 z70 z71 z72 z73 z74 z75 z76 z77 z78 z79 z80 z81 z82 z83 z84 z85 z86 z87 z88 z89 z90 z91 z92 z93 z94 z95 z96 z97 z98 z99 z100 z101 z102 z103 z104 z105 z106 z107 z108 z109 z110 z111 z112 z113 z114 z115 z116 z117 z118 z119 z120 z121 z122 z123 z124 z125 z126 z127 z128 z129 z130 z131 z132 z133 z134 z135 z136 z137 z138 z139 z140 z141 z142 z143 z144 z145 z146 z147 z148 z149 z150 z151 z152 z153 z154 z155 z156 z157 z158 z159 z160 z161 z162 z163 z164 z165 z166 z167 z168 z169 z170 z171 z172 z173 z174 z175 z176 z177 z178 z179 z180 z181 z182 z183 z184 z185 z186 z187 z188 z189 z190 z191 z192 z193 z194 z195 z196 z197 z198 z199 z200 z201 z202 z203 z204 z205 z206 z207 z208 z209 z210 z211 z212 z213 z214 z215 z216 z217 z218 z219 z220 z221 z222 z223 z224 z225 z226 z227 z228 z229 z230 z231 z232 z233 z234 z235 z236 z237 z238 z239 z240 z241 z242 z243 z244 z245 z246 z247 z248 z249 z250 z251 z252 z253 z254 z255 z256 z257 z258 z259 z260 z261 z262 z263 z264 z265 z266 z267 z268 z269 z270 z271 z272 z273 z274 z275 z276 z277 : Value}
    (hn : more.length ≤ 10000) (hm8 : more.length ≤ 8) (ht10 : tag.length ≤ 10000) (htx : s.texts.length ≤ 64 * j + q) (hsu : s.sum.length ≤ 200 + 200 * (64 * j + q)) (hLe : L.length ≤ more.length + 1) (hlt : j < L.length) (hx64 : xn ≤ 64) (hqn : q < xn) (hwk : s.work ≤ 2000) (hsml : sm.length = nn) (hnnb : nn ≤ s.sum.length + 6) (hd64 : dn ≤ 64) (hokl : ok.length ≤ 10000) (hdo1 : di.length ≤ 10000) (hdo2 : dt.length ≤ 10000) (hi : ix < more.length)
    (HMD0 : Kp (RdLinks w w.heap.size (.slice dA dl.length dc) dl)) (HDS : Kp (Short1 dl)) (HDN : Kp (dl.length = dn)) (HCM : Kp (∀ W, Ext w W → W.cell? ⟨bm, om + ix * 3, none⟩ = some (.string (ofL di)) ∧ W.cell? ⟨bm, om + ix * 3 + 1, none⟩ = some (.slice dA dn dc) ∧ W.cell? ⟨bm, om + ix * 3 + 2, none⟩ = some (.string (ofL dt)))) (HDM : Kp ((⟨di, dt, dA, dc, dl⟩ : TokA) ∈ more))
    (hsz : Kp (SizeOk M s)) (HSX : Kp (s.list[j]? = some (x.k, x.t.plain)))
    (HU : Kp (thirdL tag M s TG (ya, yb) = useL tag ⟨s.used, s.list, s.texts, s.work + 1, sm⟩ ok ix (TokA.plain ⟨di, dt, dA, dc, dl⟩)))
    (hfailX : Kp (∀ r : PrL, thirdL tag M s TG (ya, yb) = (r, false) → X = (r, 11)))
    (hgoX : Kp (∀ r : PrL, thirdL tag M s TG (ya, yb) = (r, true) → restGo tag M f' j (linksL tag M r (foldT (rootL x.k x.t.id) (x.t.l.take (q + 1))) (x.t.l.drop (q + 1))) = (Rs, Rb)))
    (S42 : RpSt w W42 ⟨id, tag, A, c, l⟩ (.slice (some ⟨bm, om, none⟩) more.length cm) more ⟨s.used.set ix true, s.list, s.texts, s.work + 1, sm⟩ (L.map PvA.t) L L (.slice (some ⟨gu, 0, none⟩) more.length cu) vt (.slice A34 nn c34) (.slice (some ⟨gk, 0, none⟩) L.length ck) (.slice (some ⟨gg, 0, none⟩) L.length cg) (rpBx (.slice (some ⟨gu, 0, none⟩) more.length cu) vt (s.work + 1) 0 (.slice A34 nn c34)))
    (hN : Kp (∀ {y17 y198 y199 y200 y201 y202 y203 y204 y205 y206 y207 y208 y209 y210 y211 y212 y213 y214 y215 y216 y217 y218 y219 y220 y221 y222 y223 y224 y225 y226 y227 y228 y229 y230 y231 y232 y233 y234 y235 y236 y237 y238 y239 y240 y241 y242 y243 y244 y245 y246 y247 y248 y249 y250 y251 y252 y253 y254 y255 y256 y257 y258 y259 y260 y261 y262 : Value} (s' : PrL) (L' : List PvA) (vs' vk' vg' : Value) (w' : World), s'.texts.length ≤ 64 * j + (q + 1) → s'.sum.length ≤ 200 + 200 * (64 * j + (q + 1)) → RpSt w w' ⟨id, tag, A, c, l⟩ (.slice (some ⟨bm, om, none⟩) more.length cm) more s' (L'.map PvA.t) L' L' (.slice (some ⟨gu, 0, none⟩) more.length cu) vt vs' vk' vg' (rpBx (.slice (some ⟨gu, 0, none⟩) more.length cu) vt s'.work 0 vs') → restGo tag M f' j (linksL tag M s' (foldT (rootL x.k x.t.id) (x.t.l.take (q + 1))) (x.t.l.drop (q + 1))) = (Rs, Rb) → SizeOk M s' → s'.list[j]? = some (x.k, x.t.plain) → Q .normal ⟨#[z0, z1, z2, .pointer (some ⟨w.heap.size, 0, none⟩), .pointer (some ⟨w.heap.size + 1, 0, none⟩), .pointer (some ⟨w.heap.size + 1 + 1, 0, none⟩), z6, vg', vk', z9, z10, z11, z12, .string (ofL ok), z14, .int .i64 ix, z16, y17, z18, z19, z20, z21, z22, z23, z24, z25, z26, z27, z28, z29, z30, z31, z32, z33, z34, z35, z36, z37, z38, z39, z40, z41, z42, z43, z44, z45, z46, z47, z48, z49, z50, z51, z52, z53, z54, z55, z56, z57, z58, z59, z60, z61, z62, z63, z64, z65, z66, z67, z68, z69, z70, z71, z72, z73, z74, z75, z76, z77, z78, z79, z80, z81, z82, z83, z84, z85, z86, z87, z88, z89, z90, z91, z92, z93, z94, z95, z96, z97, z98, z99, z100, z101, z102, z103, z104, z105, z106, z107, z108, z109, z110, z111, z112, z113, z114, z115, z116, z117, z118, z119, z120, z121, z122, z123, z124, z125, z126, z127, z128, z129, z130, z131, z132, z133, z134, z135, z136, z137, z138, z139, z140, z141, z142, z143, z144, z145, z146, z147, z148, z149, z150, z151, z152, z153, z154, z155, z156, z157, z158, z159, z160, z161, z162, z163, z164, z165, z166, z167, z168, z169, z170, z171, z172, z173, z174, z175, z176, z177, z178, z179, z180, z181, z182, z183, z184, z185, z186, z187, z188, z189, z190, z191, z192, z193, z194, z195, z196, z197, y198, y199, y200, y201, y202, y203, y204, y205, y206, y207, y208, y209, y210, y211, y212, y213, y214, y215, y216, y217, y218, y219, y220, y221, y222, y223, y224, y225, y226, y227, y228, y229, y230, y231, y232, y233, y234, y235, y236, y237, y238, y239, y240, y241, y242, y243, y244, y245, y246, y247, y248, y249, y250, y251, y252, y253, y254, y255, y256, y257, y258, y259, y260, y261, y262, z263, z264, z265, z266, z267, z268, z269, z270, z271, z272, z273, z274, z275, z276, z277], []⟩ w'))
    (hR : Kp (∀ a' w', bodyPost Tryz.prog Tryz.f19 (RpPost w X) .ret a' w' → Q .ret a' w'))
    (hK : ∀ a w, Code.wp Tryz.prog (rpCode [1, 1, 1, 1, 1, 1, 1, 1, 1, 1, 0, 1, 4, 4, 1, 0, 4, 1, 4, 4, 1, 0, 4, 1, 1, 1, 1, 1, 1, 1, 1, 1, 1, 1, 1]) Q a w → K a w) :
    Code.wp Tryz.prog (rpCode [1, 1, 1, 1, 1, 1, 1, 1, 1, 1, 0, 1, 4, 4, 1, 0, 4, 1, 4, 4, 1, 0, 4, 1, 1, 1, 1, 1, 1, 1, 1, 1, 1, 1, 0]) (Exit.then K Q) ⟨#[z0, z1, z2, .pointer (some ⟨w.heap.size, 0, none⟩), .pointer (some ⟨w.heap.size + 1, 0, none⟩), .pointer (some ⟨w.heap.size + 1 + 1, 0, none⟩), z6, .slice (some ⟨gg, 0, none⟩) L.length cg, .slice (some ⟨gk, 0, none⟩) L.length ck, z9, z10, z11, z12, .string (ofL ok), z14, .int .i64 ix, z16, z17, z18, z19, z20, z21, z22, z23, z24, z25, z26, z27, z28, z29, z30, z31, z32, z33, z34, z35, z36, z37, z38, z39, z40, z41, z42, z43, z44, z45, z46, z47, z48, z49, z50, z51, z52, z53, z54, z55, z56, z57, z58, z59, z60, z61, z62, z63, z64, z65, z66, z67, z68, z69, z70, z71, z72, z73, z74, z75, z76, z77, z78, z79, z80, z81, z82, z83, z84, z85, z86, z87, z88, z89, z90, z91, z92, z93, z94, z95, z96, z97, z98, z99, z100, z101, z102, z103, z104, z105, z106, z107, z108, z109, z110, z111, z112, z113, z114, z115, z116, z117, z118, z119, z120, z121, z122, z123, z124, z125, z126, z127, z128, z129, z130, z131, z132, z133, z134, z135, z136, z137, z138, z139, z140, z141, z142, z143, z144, z145, z146, z147, z148, z149, z150, z151, z152, z153, z154, z155, z156, z157, z158, z159, z160, z161, z162, z163, z164, z165, z166, z167, z168, z169, z170, z171, z172, z173, z174, z175, z176, z177, z178, z179, z180, z181, z182, z183, z184, z185, z186, z187, z188, z189, z190, z191, z192, z193, z194, z195, z196, z197, z198, z199, z200, z201, z202, z203, z204, z205, z206, z207, z208, z209, z210, z211, z212, z213, z214, z215, z216, z217, z218, z219, z220, z221, z222, z223, z224, z225, z226, z227, z228, z229, z230, z231, z232, z233, z234, z235, z236, z237, z238, z239, z240, z241, z242, z243, z244, z245, z246, z247, z248, z249, z250, z251, z252, z253, z254, z255, z256, z257, z258, z259, z260, z261, z262, z263, z264, z265, z266, z267, z268, z269, z270, z271, z272, z273, z274, z275, z276, z277], []⟩ W42 := by
  have cT2 := Kp.mk (fun (W : World) (hW : Ext w W) => rtags_any ok di dt (.slice dA dl.length dc) dl W (by omega) (by omega) (rd_at HMD0.out hW) HDS.out (by rw [HDN.out]; omega))
  have cX2 := Kp.mk (show ∀ W, Ext w W → Calls Tryz.prog 49 #[.string (ofL ok), .agg #[.string (ofL di), .slice dA dn dc, .string (ofL dt)]] W fun e w' => ∃ v, e = .returned v ∧ Ext W w' ∧ Rd w' w'.heap.size 1 v (2 + 2 * dn) ((textsL ok di dl).map Str) from fun W hW => by
    have h := rctexts_any ok di dt (.slice dA dl.length dc) dl W (by omega) (by omega) (rd_at HMD0.out hW) HDS.out (by rw [HDN.out]; omega)
    unfold tokV at h
    rw [HDN.out] at h
    exact h.mono fun e w' ⟨v, h1, h2, h3⟩ => ⟨v, h1, h3, Rd.own h2 (by decide)⟩)
  unfold tokV at cT2
  rw [HDN.out] at cT2
  clear HMD0
  conv => arg 2; whnf
  conv at hK => intro a w; arg 1; arg 2; whnf
  have b3 := S42.bun.cell 3
  simp only [List.getElem?_cons_zero, List.getElem?_cons_succ] at b3
  obtain ⟨c0, c1, c2⟩ := HCM.out W42 S42.ext
  go_wp2_with fail
  refine (cT2.out _ S42.ext).mono ?_
  rintro e w43 ⟨v43, rfl, own43, E43⟩
  obtain ⟨gd, cd, rfl⟩ := ownsRow_succ own43
  have hgd := (own43.lt gd rfl).1
  have S43 := ((S42.up E43).know (x := ⟨ok, ⟨di, dt, dA, dc, dl⟩, gd, cd⟩) (by unfold TagsAt; dsimp only; rw [HDN.out]; exact own_more own43 S42.ext.size) (fun h => by have := (S42.texts.lt gd h).2; omega) (fun h => by have := (S42.sum.lt gd h).2; omega))
  clear S42 own43 E43 b3 c0 c1 c2 hgd cT2
  have q2 := S43.box.cell 2; have z2 := S43.box.frozen 2
  rw [(rpBx_get _ _ _ _ _).2.2.1] at q2
  have S44 := (S43.set 2 (.int .i64 ((s.work : Int) + 1 + ((dn : Int) + 1) + 1))).bxe (bx' := rpBx (.slice (some ⟨gu, 0, none⟩) more.length cu) vt (s.work + 1 + (dn + 1) + 1) 0 (.slice A34 nn c34)) rfl
  obtain ⟨W44, hW44⟩ : ∃ W44 : World, W44 = w43.setCell ⟨w.heap.size + 1 + 1, 2, none⟩ (.int .i64 ((s.work : Int) + 1 + ((dn : Int) + 1) + 1)) := ⟨_, rfl⟩
  rw [← hW44] at S44
  have HW44 := Kp.mk hW44
  clear hW44
  go_upto_region 45 with fail
  rw [← HW44.out]
  clear HW44 S43 q2 z2
  have hbx := S44.box
  have hbun := S44.bun
  refine wp_region_tailsE (fun i v W => match i with
    | 0 => v = .pointer (some ⟨w.heap.size + 1 + 1, 4, none⟩)
    | 1 => v = .slice A34 nn c34
    | 2 => v = .string (ofL ok)
    | 3 => v = .pointer (some ⟨w.heap.size, 3, none⟩)
    | 4 => v = .slice (some ⟨bm, om, none⟩) more.length cm
    | 5 => v = .int .i64 ix
    | 6 => v = .pointer (some ⟨bm, om + ix * 3, none⟩)
    | 7 => v = .agg #[.string (ofL di), .slice dA dn dc, .string (ofL dt)]
    | 8 => Rd W W.heap.size 1 v (2 + 2 * dn) ((textsL ok di dl).map Str)
    | _ => True) 9 (by kernel_rfl) (by kernel_rfl) (by kernel_rfl) (by decide) (by kernel_rfl) (by kernel_rfl) (by kernel_rfl) (by kernel_rfl) ?_ ?_ ?_
  · intro i v W1 W2 e1 e2 h
    match i, h with
    | 0, h => exact h
    | 1, h => exact h
    | 2, h => exact h
    | 3, h => exact h
    | 4, h => exact h
    | 5, h => exact h
    | 6, h => exact h
    | 7, h => exact h
    | 8, h => exact rd_at h e2
    | (i + 9), h => exact h
  · intro HF
    refine localsR_cons (fun u W hW hd => ?_) ?_
    · refine opLeaves_ev HF rfl fun ev zc zg zf zt => ?_
      have t5 : ev (.tmp 5) = .pointer (some ⟨w.heap.size + 1 + 1, 0, none⟩) := zt 5
      clear zt
      exact ev_val (v := .pointer (some ⟨w.heap.size + 1 + 1, 4, none⟩)) (by go_simp) rfl
    refine localsR_cons (fun u W hW hd => ?_) ?_
    · refine opLeaves_ev HF rfl fun ev zc zg zf zt => ?_
      have t212 : ev (.tmp 212) = u 0 := zt 212
      clear zt
      have h0 : u 0 = _ := hd 0 (by kernel_rfl)
      have q4 := (hbx.ext hW hbx.lt).cell 4
      rw [(rpBx_get _ _ _ _ _).2.2.2.2] at q4
      exact ev_val (v := .slice A34 nn c34) (by go_simp) rfl
    refine localsR_cons (fun u W hW hd => ?_) ?_
    · refine opLeaves_ev HF rfl fun ev zc zg zf zt => ?_
      have t13 : ev (.tmp 13) = .string (ofL ok) := zt 13
      clear zt
      exact ev_val (v := .string (ofL ok)) (by go_simp) rfl
    refine localsR_cons (fun u W hW hd => ?_) ?_
    · refine opLeaves_ev HF rfl fun ev zc zg zf zt => ?_
      have t3 : ev (.tmp 3) = .pointer (some ⟨w.heap.size, 0, none⟩) := zt 3
      clear zt
      exact ev_val (v := .pointer (some ⟨w.heap.size, 3, none⟩)) (by go_simp) rfl
    refine localsR_cons (fun u W hW hd => ?_) ?_
    · refine opLeaves_ev HF rfl fun ev zc zg zf zt => ?_
      have t215 : ev (.tmp 215) = u 3 := zt 215
      clear zt
      have h3 : u 3 = _ := hd 3 (by kernel_rfl)
      have b3 := (hbun.ext hW hbun.lt).cell 3
      simp only [List.getElem?_cons_zero, List.getElem?_cons_succ] at b3
      exact ev_val (v := .slice (some ⟨bm, om, none⟩) more.length cm) (by go_simp) rfl
    refine localsR_cons (fun u W hW hd => ?_) ?_
    · refine opLeaves_ev HF rfl fun ev zc zg zf zt => ?_
      have t15 : ev (.tmp 15) = .int .i64 ix := zt 15
      clear zt
      exact ev_val (v := .int .i64 ix) (by go_simp) rfl
    refine localsR_cons (fun u W hW hd => ?_) ?_
    · refine opLeaves_ev HF rfl fun ev zc zg zf zt => ?_
      have t216 : ev (.tmp 216) = u 4 := zt 216
      have t217 : ev (.tmp 217) = u 5 := zt 217
      clear zt
      have h4 : u 4 = _ := hd 4 (by kernel_rfl)
      have h5 : u 5 = _ := hd 5 (by kernel_rfl)
      exact ev_val (v := .pointer (some ⟨bm, om + ix * 3, none⟩)) (by go_simp) rfl
    refine localsR_cons (fun u W hW hd => ?_) ?_
    · refine opLeaves_ev HF rfl fun ev zc zg zf zt => ?_
      have t218 : ev (.tmp 218) = u 6 := zt 218
      clear zt
      have h6 : u 6 = _ := hd 6 (by kernel_rfl)
      obtain ⟨c0, c1, c2⟩ := HCM.out W (S44.ext.tr hW)
      exact ev_val (v := .agg #[.string (ofL di), .slice dA dn dc, .string (ofL dt)]) (by go_simp) rfl
    refine localsR_cons (fun u W hW hd => ?_) localsR_nil
    · refine opLeaves_ev HF rfl fun ev zc zg zf zt => ?_
      have t214 : ev (.tmp 214) = u 2 := zt 214
      have t219 : ev (.tmp 219) = u 7 := zt 219
      clear zt
      have h2 : u 2 = _ := hd 2 (by kernel_rfl)
      have h7 : u 7 = _ := hd 7 (by kernel_rfl)
      exact ev_call (f := 49) (args := #[.string (ofL ok), .agg #[.string (ofL di), .slice dA dn dc, .string (ofL dt)]]) (by go_simp) (cX2.out W (S44.ext.tr hW))
  · intro u45 W45 hW45 hV
    have h1 : u45 1 = _ := hV 1 (by decide)
    have h8 := hV 8 (by decide)
    clear hV hbx hbun cX2
    have S45 := S44.up hW45
    clear S44 hW45
    have hown := own_eq S45.sum rfl (show sm.length = nn from hsml)
    refine wpl_app_rd_blk Tryz.elemStr rfl _ _ rfl hown (vx := u45 8) (by go_simp) (by go_simp) h8 (oneCell_str _) (by omega) (by omega) (by have := S45.ext.size; omega) ?_
    intro v46 w46 own46 hg46 hn46
    have S46 := S45.summed (xs := textsL ok di dl) (own_eq own46 rfl (by rw [hsml, length_textsL, HDN.out])) hg46 hn46
    obtain ⟨A46, c46, hv46⟩ := own_slice own46
    subst hv46
    obtain ⟨n2, hn2⟩ : ∃ n2, nn + (2 + 2 * dn) = n2 := ⟨_, rfl⟩
    have hsm2 : (sm ++ textsL ok di dl).length = n2 := by rw [List.length_append, hsml, length_textsL, HDN.out, hn2]
    have hn2b : n2 ≤ nn + 130 := by omega
    have HN2 := Kp.mk hn2
    rw [hn2] at S46 own46
    have q4 := S46.box.cell 4; have z4 := S46.box.frozen 4
    rw [(rpBx_get _ _ _ _ _).2.2.2.2] at q4
    have S47 := (S46.set 4 (.slice A46 n2 c46)).bxe (bx' := rpBx (.slice (some ⟨gu, 0, none⟩) more.length cu) vt (s.work + 1 + (dn + 1) + 1) 0 (.slice A46 n2 c46)) rfl
    obtain ⟨W47, hW47⟩ : ∃ W47 : World, W47 = w46.setCell ⟨w.heap.size + 1 + 1, 4, none⟩ (.slice A46 n2 c46) := ⟨_, rfl⟩
    rw [← hW47] at S47
    have HW47 := Kp.mk hW47
    obtain ⟨sm2, hsme⟩ : ∃ sm2, sm ++ textsL ok di dl = sm2 := ⟨_, rfl⟩
    have HSME := Kp.mk hsme
    dsimp only at S47
    rw [hsme] at S47 hsm2
    clear own46 hg46 hn46 S45 hW47 hown hn2 hsme
    rw [HN2.out]
    go_upto_region 46 with fail
    rw [← HW47.out]
    clear HW47 S46 q4 z4
    obtain ⟨LD, hLD⟩ : ∃ LD, lastL ok di dl = LD := ⟨_, rfl⟩
    have lLD : LD.length = 32 := by rw [← hLD]; exact length_lastL _ _ _
    obtain ⟨BD, hBD⟩ : ∃ BD, bindL tag LD = BD := ⟨_, rfl⟩
    have hTg := (S47.each ⟨ok, ⟨di, dt, dA, dc, dl⟩, gd, cd⟩ (by simp)).1
    unfold TagsAt at hTg
    dsimp only at hTg
    rw [HDN.out] at hTg
    have cL2 := Kp.mk (show ∀ W, Ext W47 W → Calls Tryz.prog 50 #[.slice (some ⟨gd, 0, none⟩) (dn + 1) cd] W fun e w' => e = .returned (.string (ofL LD)) ∧ Ext W w' from fun W hW => rlast_any W (tagsL ok di dl) LD _ dn (Rd.own (own_ext hTg (fun j _ hj => hW.block j hj)) (by decide)) (by rw [tagsL_get ok di dl dn (by rw [HDN.out]; omega), List.take_of_length_le (by rw [HDN.out]; omega), hLD]) (by omega))
    have cBP := Kp.mk (show ∀ W, Calls Tryz.prog 54 #[.string (ofL LD)] W fun e w' => ∃ v, e = .returned v ∧ Ext W w' ∧ Rd w' w'.heap.size 1 v 2 ((bindParts LD).map Str) from fun W => (rbindParts_any LD W).mono fun e w' ⟨v, h1, h2, h3⟩ => ⟨v, h1, h3, Rd.own h2 (by decide)⟩)
    obtain ⟨FB, hFB⟩ : ∃ FB, frameL (bindParts LD) = FB := ⟨_, rfl⟩
    have lFB : FB.length = 52 := by rw [← hFB, len_bind, lLD]
    have cFB := Kp.mk (show ∀ W v, Rd W W.heap.size 1 v 2 ((bindParts LD).map Str) → Calls Tryz.prog 38 #[v] W fun e w' => e = .returned (.string (ofL FB)) ∧ Ext W w' from fun W v h => by rw [← hFB]; exact rframe_any (bindParts LD) v W h (by rw [len_bind]; omega))
    have cTB := Kp.mk (show ∀ W, Calls Tryz.prog 52 #[.string (ofL tag), .string (ofL FB)] W fun e w' => ∃ v, e = .returned v ∧ Ext W w' ∧ Rd w' w'.heap.size 1 v 2 ((pairT tag (bindParts LD)).map Str) from fun W => (rtexts_any tag FB W (by omega) (by omega)).mono fun e w' ⟨v, h1, h2, h3⟩ => ⟨v, h1, h3, by rw [← hFB] at h2; exact Rd.own h2 (by decide)⟩)
    have cPB := Kp.mk (show ∀ W v, Rd W W.heap.size 1 v 2 ((bindParts LD).map Str) → Calls Tryz.prog 43 #[.string (ofL tag), v] W fun e w' => e = .returned (.string (ofL BD)) ∧ Ext W w' from fun W v h => by rw [← hBD]; exact rparts_any tag (bindParts LD) v W (by omega) h (by rw [len_bind]; omega))
    have HLD := Kp.mk hLD; have HBD := Kp.mk hBD
    clear hTg hLD hBD hFB
    have hbx := S47.box
    have hbun := S47.bun
    refine wp_region_tailsE (fun i v W => match i with
      | 0 => v = .pointer (some ⟨w.heap.size + 1 + 1, 4, none⟩)
      | 1 => v = .slice A46 n2 c46
      | 2 => v = .pointer (some ⟨w.heap.size, 0, none⟩)
      | 3 => v = .pointer (some ⟨w.heap.size, 2, none⟩)
      | 4 => v = .string (ofL tag)
      | 5 => v = .slice (some ⟨gd, 0, none⟩) (dn + 1) cd
      | 6 => v = .string (ofL LD)
      | 7 => Rd W W.heap.size 1 v 2 ((bindParts LD).map Str)
      | 8 => v = .string (ofL FB)
      | 9 => Rd W W.heap.size 1 v 2 ((pairT tag (bindParts LD)).map Str)
      | _ => True) 10 (by kernel_rfl) (by kernel_rfl) (by kernel_rfl) (by decide) (by kernel_rfl) (by kernel_rfl) (by kernel_rfl) (by kernel_rfl) ?_ ?_ ?_
    · intro i v W1 W2 e1 e2 h
      match i, h with
      | 0, h => exact h
      | 1, h => exact h
      | 2, h => exact h
      | 3, h => exact h
      | 4, h => exact h
      | 5, h => exact h
      | 6, h => exact h
      | 7, h => exact rd_at h e2
      | 8, h => exact h
      | 9, h => exact rd_at h e2
      | (i + 10), h => exact h
    · intro HF
      refine localsR_cons (fun u W hW hd => ?_) ?_
      · refine opLeaves_ev HF rfl fun ev zc zg zf zt => ?_
        have t5 : ev (.tmp 5) = .pointer (some ⟨w.heap.size + 1 + 1, 0, none⟩) := zt 5
        clear zt
        exact ev_val (v := .pointer (some ⟨w.heap.size + 1 + 1, 4, none⟩)) (by go_simp) rfl
      refine localsR_cons (fun u W hW hd => ?_) ?_
      · refine opLeaves_ev HF rfl fun ev zc zg zf zt => ?_
        have t223 : ev (.tmp 223) = u 0 := zt 223
        clear zt
        have h0 : u 0 = _ := hd 0 (by kernel_rfl)
        have q4 := (hbx.ext hW hbx.lt).cell 4
        rw [(rpBx_get _ _ _ _ _).2.2.2.2] at q4
        exact ev_val (v := .slice A46 n2 c46) (by go_simp) rfl
      refine localsR_cons (fun u W hW hd => ?_) ?_
      · refine opLeaves_ev HF rfl fun ev zc zg zf zt => ?_
        have t3 : ev (.tmp 3) = .pointer (some ⟨w.heap.size, 0, none⟩) := zt 3
        clear zt
        exact ev_val (v := .pointer (some ⟨w.heap.size, 0, none⟩)) (by go_simp) rfl
      refine localsR_cons (fun u W hW hd => ?_) ?_
      · refine opLeaves_ev HF rfl fun ev zc zg zf zt => ?_
        have t225 : ev (.tmp 225) = u 2 := zt 225
        clear zt
        have h2 : u 2 = _ := hd 2 (by kernel_rfl)
        exact ev_val (v := .pointer (some ⟨w.heap.size, 2, none⟩)) (by go_simp) rfl
      refine localsR_cons (fun u W hW hd => ?_) ?_
      · refine opLeaves_ev HF rfl fun ev zc zg zf zt => ?_
        have t226 : ev (.tmp 226) = u 3 := zt 226
        clear zt
        have h3 : u 3 = _ := hd 3 (by kernel_rfl)
        have b2 := (hbun.ext hW hbun.lt).cell 2
        simp only [List.getElem?_cons_zero, List.getElem?_cons_succ] at b2
        exact ev_val (v := .string (ofL tag)) (by go_simp) rfl
      refine localsR_cons (fun u W hW hd => ?_) ?_
      · refine opLeaves_ev HF rfl fun ev zc zg zf zt => ?_
        have t17 : ev (.tmp 17) = .slice (some ⟨gd, 0, none⟩) (dn + 1) cd := zt 17
        clear zt
        exact ev_val (v := .slice (some ⟨gd, 0, none⟩) (dn + 1) cd) (by go_simp) rfl
      refine localsR_cons (fun u W hW hd => ?_) ?_
      · refine opLeaves_ev HF rfl fun ev zc zg zf zt => ?_
        have t228 : ev (.tmp 228) = u 5 := zt 228
        clear zt
        have h5 : u 5 = _ := hd 5 (by kernel_rfl)
        exact ev_call (f := 50) (args := #[.slice (some ⟨gd, 0, none⟩) (dn + 1) cd]) (by go_simp) ((cL2.out W hW).mono (by rintro e9 W9 ⟨rfl, h9⟩; exact ⟨_, rfl, h9, rfl⟩))
      refine localsR_cons (fun u W hW hd => ?_) ?_
      · refine opLeaves_ev HF rfl fun ev zc zg zf zt => ?_
        have t229 : ev (.tmp 229) = u 6 := zt 229
        clear zt
        have h6 : u 6 = _ := hd 6 (by kernel_rfl)
        exact ev_call (f := 54) (args := #[.string (ofL LD)]) (by go_simp) (cBP.out W)
      refine localsR_cons (fun u W hW hd => ?_) ?_
      · refine opLeaves_ev HF rfl fun ev zc zg zf zt => ?_
        have t230 : ev (.tmp 230) = u 7 := zt 230
        clear zt
        have h7 := hd 7 (by kernel_rfl)
        exact ev_call (f := 38) (args := #[u 7]) (by go_simp) ((cFB.out W _ h7).mono (by rintro e9 W9 ⟨rfl, h9⟩; exact ⟨_, rfl, h9, rfl⟩))
      refine localsR_cons (fun u W hW hd => ?_) localsR_nil
      · refine opLeaves_ev HF rfl fun ev zc zg zf zt => ?_
        have t227 : ev (.tmp 227) = u 4 := zt 227
        have t231 : ev (.tmp 231) = u 8 := zt 231
        clear zt
        have h4 : u 4 = _ := hd 4 (by kernel_rfl)
        have h8 : u 8 = _ := hd 8 (by kernel_rfl)
        exact ev_call (f := 52) (args := #[.string (ofL tag), .string (ofL FB)]) (by go_simp) (cTB.out W)
    · intro u46 W48 hW48 hV
      have h1b : u46 1 = _ := hV 1 (by decide)
      have h9 := hV 9 (by decide)
      clear hV hbx hbun cFB cTB
      have S48 := S47.up hW48
      have hE47 := Kp.mk hW48
      clear S47 hW48
      have hown := own_eq S48.sum rfl (show sm2.length = n2 from hsm2)
      refine wpl_app_rd_blk Tryz.elemStr rfl _ _ rfl hown (vx := u46 9) (by go_simp) (by go_simp) h9 (oneCell_str _) (by omega) (by omega) (by have := S48.ext.size; omega) ?_
      intro v49 w49 own49 hg49 hn49
      have S49 := S48.summed (xs := pairT tag (bindParts LD)) (own_eq own49 rfl (by rw [hsm2]; rfl)) hg49 hn49
      obtain ⟨A49, c49, hv49⟩ := own_slice own49
      subst hv49
      have q4 := S49.box.cell 4; have z4 := S49.box.frozen 4
      rw [(rpBx_get _ _ _ _ _).2.2.2.2] at q4
      have S50 := (S49.set 4 (.slice A49 (n2 + 2) c49)).bxe (bx' := rpBx (.slice (some ⟨gu, 0, none⟩) more.length cu) vt (s.work + 1 + (dn + 1) + 1) 0 (.slice A49 (n2 + 2) c49)) rfl
      obtain ⟨W50, hW50⟩ : ∃ W50 : World, W50 = w49.setCell ⟨w.heap.size + 1 + 1, 4, none⟩ (.slice A49 (n2 + 2) c49) := ⟨_, rfl⟩
      rw [← hW50] at S50
      have HW50 := Kp.mk hW50
      dsimp only at S50
      have hTg := (S50.each ⟨ok, ⟨di, dt, dA, dc, dl⟩, gd, cd⟩ (by simp)).1
      unfold TagsAt at hTg
      dsimp only at hTg
      rw [HDN.out] at hTg
      have cL2 := Kp.mk (show ∀ W, Ext W50 W → Calls Tryz.prog 50 #[.slice (some ⟨gd, 0, none⟩) (dn + 1) cd] W fun e w' => e = .returned (.string (ofL LD)) ∧ Ext W w' from fun W hW => rlast_any W (tagsL ok di dl) LD _ dn (Rd.own (own_ext hTg (fun j _ hj => hW.block j hj)) (by decide)) (by rw [tagsL_get ok di dl dn (by rw [HDN.out]; omega), List.take_of_length_le (by rw [HDN.out]; omega), HLD.out]) (by omega))
      clear own49 hg49 hn49 S48 hW50 hown hTg
      go_upto_region 47 with fail
      rw [← HW50.out]
      clear HW50 S49 q4 z4 hE47
      have hbun := S50.bun
      have hcm50 := Kp.mk (show ∀ W, Ext W50 W → _ from fun W hW => HCM.out W (S50.ext.tr hW))
      refine wp_region_localsE (fun i v W => match i with
        | 0 => v = .pointer (some ⟨w.heap.size, 0, none⟩)
        | 1 => v = .pointer (some ⟨w.heap.size, 2, none⟩)
        | 2 => v = .string (ofL tag)
        | 3 => v = .slice (some ⟨gd, 0, none⟩) (dn + 1) cd
        | 4 => v = .string (ofL LD)
        | 5 => Rd W W.heap.size 1 v 2 ((bindParts LD).map Str)
        | 6 => v = .string (ofL BD)
        | 7 => v = .pointer (some ⟨w.heap.size, 3, none⟩)
        | 8 => v = .slice (some ⟨bm, om, none⟩) more.length cm
        | 9 => v = .int .i64 ix
        | 10 => v = .pointer (some ⟨bm, om + ix * 3, none⟩)
        | 11 => v = .pointer (some ⟨bm, om + ix * 3 + 2, none⟩)
        | 12 => v = .string (ofL dt)
        | 13 => v = .bool (!(BD == dt))
        | _ => True) (by kernel_rfl) (by kernel_rfl) (by kernel_rfl) (by kernel_rfl) ?_ ?_ ?_
      · intro i v W1 W2 e1 e2 h
        match i, h with
        | 0, h => exact h
        | 1, h => exact h
        | 2, h => exact h
        | 3, h => exact h
        | 4, h => exact h
        | 5, h => exact rd_at h e2
        | 6, h => exact h
        | 7, h => exact h
        | 8, h => exact h
        | 9, h => exact h
        | 10, h => exact h
        | 11, h => exact h
        | 12, h => exact h
        | 13, h => exact h
        | (i + 14), h => exact h
      · intro HF
        refine locals_cons (fun u W hW hd => ?_) ?_
        · refine opLeaves_ev HF rfl fun ev zc zg zf zt => ?_
          have t3 : ev (.tmp 3) = .pointer (some ⟨w.heap.size, 0, none⟩) := zt 3
          clear zt
          exact ev_val (v := .pointer (some ⟨w.heap.size, 0, none⟩)) (by go_simp) rfl
        refine locals_cons (fun u W hW hd => ?_) ?_
        · refine opLeaves_ev HF rfl fun ev zc zg zf zt => ?_
          have t235 : ev (.tmp 235) = u 0 := zt 235
          clear zt
          have h0 : u 0 = _ := hd 0 (by kernel_rfl)
          exact ev_val (v := .pointer (some ⟨w.heap.size, 2, none⟩)) (by go_simp) rfl
        refine locals_cons (fun u W hW hd => ?_) ?_
        · refine opLeaves_ev HF rfl fun ev zc zg zf zt => ?_
          have t236 : ev (.tmp 236) = u 1 := zt 236
          clear zt
          have h1 : u 1 = _ := hd 1 (by kernel_rfl)
          have b2 := (hbun.ext hW hbun.lt).cell 2
          simp only [List.getElem?_cons_zero, List.getElem?_cons_succ] at b2
          exact ev_val (v := .string (ofL tag)) (by go_simp) rfl
        refine locals_cons (fun u W hW hd => ?_) ?_
        · refine opLeaves_ev HF rfl fun ev zc zg zf zt => ?_
          have t17 : ev (.tmp 17) = .slice (some ⟨gd, 0, none⟩) (dn + 1) cd := zt 17
          clear zt
          exact ev_val (v := .slice (some ⟨gd, 0, none⟩) (dn + 1) cd) (by go_simp) rfl
        refine locals_cons (fun u W hW hd => ?_) ?_
        · refine opLeaves_ev HF rfl fun ev zc zg zf zt => ?_
          have t238 : ev (.tmp 238) = u 3 := zt 238
          clear zt
          have h3 : u 3 = _ := hd 3 (by kernel_rfl)
          exact ev_call (f := 50) (args := #[.slice (some ⟨gd, 0, none⟩) (dn + 1) cd]) (by go_simp) ((cL2.out W hW).mono (by rintro e9 W9 ⟨rfl, h9⟩; exact ⟨_, rfl, h9, rfl⟩))
        refine locals_cons (fun u W hW hd => ?_) ?_
        · refine opLeaves_ev HF rfl fun ev zc zg zf zt => ?_
          have t239 : ev (.tmp 239) = u 4 := zt 239
          clear zt
          have h4 : u 4 = _ := hd 4 (by kernel_rfl)
          exact ev_call (f := 54) (args := #[.string (ofL LD)]) (by go_simp) (cBP.out W)
        refine locals_cons (fun u W hW hd => ?_) ?_
        · refine opLeaves_ev HF rfl fun ev zc zg zf zt => ?_
          have t237 : ev (.tmp 237) = u 2 := zt 237
          have t240 : ev (.tmp 240) = u 5 := zt 240
          clear zt
          have h2 : u 2 = _ := hd 2 (by kernel_rfl)
          have h5 := hd 5 (by kernel_rfl)
          exact ev_call (f := 43) (args := #[.string (ofL tag), u 5]) (by go_simp) ((cPB.out W _ h5).mono (by rintro e9 W9 ⟨rfl, h9⟩; exact ⟨_, rfl, h9, rfl⟩))
        refine locals_cons (fun u W hW hd => ?_) ?_
        · refine opLeaves_ev HF rfl fun ev zc zg zf zt => ?_
          have t3 : ev (.tmp 3) = .pointer (some ⟨w.heap.size, 0, none⟩) := zt 3
          clear zt
          exact ev_val (v := .pointer (some ⟨w.heap.size, 3, none⟩)) (by go_simp) rfl
        refine locals_cons (fun u W hW hd => ?_) ?_
        · refine opLeaves_ev HF rfl fun ev zc zg zf zt => ?_
          have t242 : ev (.tmp 242) = u 7 := zt 242
          clear zt
          have h7 : u 7 = _ := hd 7 (by kernel_rfl)
          have b3 := (hbun.ext hW hbun.lt).cell 3
          simp only [List.getElem?_cons_zero, List.getElem?_cons_succ] at b3
          exact ev_val (v := .slice (some ⟨bm, om, none⟩) more.length cm) (by go_simp) rfl
        refine locals_cons (fun u W hW hd => ?_) ?_
        · refine opLeaves_ev HF rfl fun ev zc zg zf zt => ?_
          have t15 : ev (.tmp 15) = .int .i64 ix := zt 15
          clear zt
          exact ev_val (v := .int .i64 ix) (by go_simp) rfl
        refine locals_cons (fun u W hW hd => ?_) ?_
        · refine opLeaves_ev HF rfl fun ev zc zg zf zt => ?_
          have t243 : ev (.tmp 243) = u 8 := zt 243
          have t244 : ev (.tmp 244) = u 9 := zt 244
          clear zt
          have h8 : u 8 = _ := hd 8 (by kernel_rfl)
          have h9 : u 9 = _ := hd 9 (by kernel_rfl)
          exact ev_val (v := .pointer (some ⟨bm, om + ix * 3, none⟩)) (by go_simp) rfl
        refine locals_cons (fun u W hW hd => ?_) ?_
        · refine opLeaves_ev HF rfl fun ev zc zg zf zt => ?_
          have t245 : ev (.tmp 245) = u 10 := zt 245
          clear zt
          have h10 : u 10 = _ := hd 10 (by kernel_rfl)
          exact ev_val (v := .pointer (some ⟨bm, om + ix * 3 + 2, none⟩)) (by go_simp) rfl
        refine locals_cons (fun u W hW hd => ?_) ?_
        · refine opLeaves_ev HF rfl fun ev zc zg zf zt => ?_
          have t246 : ev (.tmp 246) = u 11 := zt 246
          clear zt
          have h11 : u 11 = _ := hd 11 (by kernel_rfl)
          obtain ⟨c0, c1, c2⟩ := hcm50.out W hW
          exact ev_val (v := .string (ofL dt)) (by go_simp) rfl
        refine locals_cons (fun u W hW hd => ?_) locals_nil
        · refine opLeaves_ev HF rfl fun ev zc zg zf zt => ?_
          have t241 : ev (.tmp 241) = u 6 := zt 241
          have t247 : ev (.tmp 247) = u 12 := zt 247
          clear zt
          have h6 : u 6 = _ := hd 6 (by kernel_rfl)
          have h12 : u 12 = _ := hd 12 (by kernel_rfl)
          exact ev_val (v := .bool (!(BD == dt))) (by go_simp) rfl
      · intro u47 W51 hW51 hV
        have h13 : u47 13 = .bool (!(BD == dt)) := hV 13 (by decide)
        clear hV cL2 cBP cPB hbun hcm50
        have S51 := S50.up hW51
        clear S50 hW51
        have HU2 := Kp.mk (show thirdL tag M s TG (ya, yb) = (⟨s.used.set ix true, if BD = dt then s.list ++ [(ok, TokA.plain ⟨di, dt, dA, dc, dl⟩)] else s.list, s.texts, s.work + 1 + (dn + 1) + 1, sm2 ++ pairT tag (bindParts LD)⟩, decide (BD = dt)) by
          rw [HU.out]
          unfold useL
          show (PrL.mk _ (if bindL tag (lastL ok di dl) = dt then _ else _) _ (s.work + 1 + (dl.length + 1) + 1) (sm ++ textsL ok di dl ++ pairT tag (bindParts (lastL ok di dl))), decide (bindL tag (lastL ok di dl) = dt)) = _
          rw [HLD.out, HBD.out, HDN.out, HSME.out])
        clear HU
        by_cases hb : BD = dt
        · have t1 : (BD == dt) = true := by simp [hb]
          rw [t1] at h13
          have hgo3 := Kp.mk (hgoX.out ⟨s.used.set ix true, s.list ++ [(ok, TokA.plain ⟨di, dt, dA, dc, dl⟩)], s.texts, s.work + 1 + (dn + 1) + 1, sm2 ++ pairT tag (bindParts LD)⟩ (by rw [HU2.out, if_pos hb, decide_eq_true hb]))
          have hsz3 : SizeOk M ⟨s.used.set ix true, s.list ++ [(ok, TokA.plain ⟨di, dt, dA, dc, dl⟩)], s.texts, s.work + 1 + (dn + 1) + 1, sm2 ++ pairT tag (bindParts LD)⟩ := by
            have h := hsz.out.third (T := tag) (tag := TG) (l := (ya, yb)) (by rw [HU2.out, decide_eq_true hb])
            rw [HU2.out, if_pos hb] at h
            exact h
          have hsz3 := Kp.mk hsz3
          have hls3 := Kp.mk (show (s.list ++ [(ok, TokA.plain ⟨di, dt, dA, dc, dl⟩)])[j]? = some (x.k, x.t.plain) by
            rw [List.getElem?_append_left (List.getElem?_eq_some_iff.1 HSX.out).1]; exact HSX.out)
          clear hb t1 HU2 hfailX hgoX
          have htc := Kp.mk (show tokCells ⟨di, dt, dA, dc, dl⟩ = [.string (ofL di), .slice dA dn dc, .string (ofL dt)] by unfold tokCells; dsimp only; rw [HDN.out])
          have htr := Kp.mk (show tagRef ⟨ok, ⟨di, dt, dA, dc, dl⟩, gd, cd⟩ = .slice (some ⟨gd, 0, none⟩) (dn + 1) cd by unfold tagRef; dsimp only; rw [HDN.out])
          have b3 := S51.bun.cell 3
          simp only [List.getElem?_cons_zero, List.getElem?_cons_succ] at b3
          obtain ⟨c0, c1, c2⟩ := HCM.out W51 S51.ext
          have hTk := own_eq S51.toks rfl (show (L.map PvA.t).length = L.length from List.length_map _)
          have hs51 := S51.ext.size
          go_simp
          go_upto_region 51 with (at_builtin; refine wpl_app Tryz.elemTok rfl _ _ rfl hTk 1 rfl rfl rfl (by intro u hu; simp at hu; rcases hu with rfl | rfl | rfl <;> rfl) (by omega) (by omega) hs51 ?_; intro v52 w52 own52 hg52; obtain ⟨A52, c52, hv52⟩ := own_slice own52; subst hv52; have S52 := S51.tokTo (x := ⟨di, dt, dA, dc, dl⟩) (own_eq own52 (by rw [htc.out]) (by rw [List.length_map])) hg52; clear own52 hg52 hTk S51 b3 c0 c1 c2)
          have hTg := S52.tags
          have hs52 := S52.ext.size
          go_wp2_with (at_builtin; refine wpl_app Tryz.elemStrs rfl _ _ rfl hTg 1 rfl rfl rfl (by intro u hu; simp at hu; rw [hu]; rfl) (by omega) (by omega) hs52 ?_; intro v53 w53 own53 hg53; obtain ⟨A53, c53, hv53⟩ := own_slice own53; subst hv53; have S53 := S52.tagTo (x := ⟨ok, ⟨di, dt, dA, dc, dl⟩, gd, cd⟩) (own_eq own53 (by rw [htr.out]) rfl) hg53 (.inr HDM.out); clear own53 hg53 hTg S52)
          exact hN.out ⟨s.used.set ix true, s.list ++ [(ok, TokA.plain ⟨di, dt, dA, dc, dl⟩)], s.texts, s.work + 1 + (dn + 1) + 1, sm2 ++ pairT tag (bindParts LD)⟩ (L ++ [⟨ok, ⟨di, dt, dA, dc, dl⟩, gd, cd⟩]) _ _ _ _ (by dsimp only; omega) (by dsimp only; rw [List.length_append, hsm2]; show n2 + 2 ≤ _; omega) (by rw [List.map_append]; exact S53.of rfl rfl rfl rfl) hgo3.out hsz3.out hls3.out
        · have t1 : (BD == dt) = false := by simp [hb]
          rw [t1] at h13
          have HFX := Kp.mk (hfailX.out ⟨s.used.set ix true, s.list, s.texts, s.work + 1 + (dn + 1) + 1, sm2 ++ pairT tag (bindParts LD)⟩ (by rw [HU2.out, if_neg hb, decide_eq_false hb]))
          clear hb t1 HU2 hfailX hgoX
          obtain ⟨wf, rfl⟩ : ∃ wf, wf = W51 := ⟨_, rfl⟩
          have hS := S51
          clear S51
          obtain ⟨At, cat, rfl⟩ := own_slice hS.texts
          have q3 := hS.box.cell 3; have z3 := hS.box.frozen 3
          rw [(rpBx_get _ _ _ _ _).2.2.2.1] at q3
          have hS9 := (hS.set 3 (.int .i64 11)).bxe (bx' := rpBx _ _ _ 11 _) rfl
          obtain ⟨Wf, hWf⟩ : ∃ Wf : World, Wf = wf.setCell ⟨w.heap.size + 1 + 1, 3, none⟩ (.int .i64 11) := ⟨_, rfl⟩
          rw [← hWf] at hS9
          have HWf := Kp.mk hWf
          have hX := HFX.out
          clear hS hWf HFX
          go_simp
          go_upto_region 49 with fail
          rw [← HWf.out]
          have hS := hS9
          subst hX
          clear hS9 q3 z3 HWf
          have q0 := hS.box.cell 0; have q1 := hS.box.cell 1; have q2 := hS.box.cell 2; have q3 := hS.box.cell 3; have q4 := hS.box.cell 4
          have y0 := hS.res.cell 0; have y1 := hS.res.cell 1; have y2 := hS.res.cell 2; have y3 := hS.res.cell 3; have y4 := hS.res.cell 4
          have z0 := hS.res.frozen 0; have z1 := hS.res.frozen 1; have z2 := hS.res.frozen 2; have z3 := hS.res.frozen 3; have z4 := hS.res.frozen 4
          simp only [rpBx, rp0, List.getElem?_cons_zero, List.getElem?_cons_succ] at q0 q1 q2 q3 q4 y0 y1 y2 y3 y4
          go_wp2
          obtain ⟨_, rfl, hA', o1, o2, o3, E'⟩ := hS.five
          exact hR.out _ _ (bodyPost_ret (results_cell_row rfl _ _ (w.heap.size + 1) _ _ _ _ rfl hA' Tryz.underlying47 rfl (by kernel_rfl)) rfl ⟨_, _, _, rfl, o1, o2, o3, E'⟩)
end Go.Proofs.YtejhiekikblbiaaGreatDoor
