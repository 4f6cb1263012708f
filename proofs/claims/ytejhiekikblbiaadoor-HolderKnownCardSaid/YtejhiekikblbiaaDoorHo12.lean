/-
  Chapter 35's laws: HolderKnown returns true. Condition: the package's table holds the constants.
-/
import Derived.Test.YtejhiekikblbiaaDoorHo11
import Derived.Test.YtejhiekikblbiaaDoorMgH
import Derived.Test.YtejhiekikblbiaaDoorStoreT
import Derived.Test.YtejhiekikblbiaaDoorInvF
namespace Go.Proofs.YtejhiekikblbiaaDoor
open Go.RowKit

/-- A slice stays as it is read where a block is turned that it does not lie in. -/
theorem rd_set {w : World} {B size n c g j : Nat} {A : Option Addr} {xs : List Value} (h : Rd w B size (.slice A n c) n xs) (hg : 0 < n → ∀ b o, A = some ⟨b, o, none⟩ → b ≠ g) (u : Value) : Rd (w.setCell ⟨g, j, none⟩ u) B size (.slice A n c) n xs := by
  obtain ⟨A', c', e, hn, hl, hc⟩ := h
  cases e
  refine ⟨A, c, rfl, hn, hl, fun h0 => ?_⟩
  obtain ⟨b, off, rfl, hb, hcell⟩ := hc h0
  refine ⟨b, off, rfl, hb, fun i u' hu => ?_⟩
  have hne : b ≠ g := hg h0 b off rfl
  have := hcell i u' hu
  rw [← this]
  have hh := heap_setCell_other w ⟨g, j, none⟩ b u hne
  simp [World.cell?, hh]
def nonce0 : List UInt8 := [48, 49, 50, 51, 52, 53, 54, 55, 56, 57, 97, 98, 99, 100, 101, 102]
def theKey : List UInt8 := [116, 104, 101, 32, 107, 101, 121]
theorem smallShort {id tag : List UInt8} {l : List LinkL} (h : Small id tag l) : Short1 l := fun x hx => by have := h.2.2.2.1 x hx; omega
/-- What is kept of the token that is under way. -/
structure KnownTok (k id : List UInt8) (n i : Nat) (X : TokL) : Prop where
  hid : X.id = id
  htag : X.tag = lastL k id X.links
  hlen : X.links.length = n + i
  hsmall : ∀ x ∈ X.links, x.1.length ≤ 4200 ∧ x.2.length ≤ 4200
theorem KnownTok.next {k id : List UInt8} {n i : Nat} {X : TokL} (h : KnownTok k id n i X) (x : LinkL) (h1 : x.1.length ≤ 4200) (h2 : x.2.length ≤ 4200) : KnownTok k id n (i + 1) (withL X x) :=
  ⟨h.hid, by show nextL X.tag x = lastL k id (X.links ++ [x]); rw [lastL_snoc, h.htag], by show (X.links ++ [x]).length = _; rw [List.length_append, h.hlen]; rfl, fun y hy => by
    rcases List.mem_append.1 hy with hy | hy
    · exact h.hsmall y hy
    · rw [List.mem_singleton.1 hy]; exact ⟨h1, h2⟩⟩
theorem KnownTok.short {k id : List UInt8} {n i : Nat} {X : TokL} (h : KnownTok k id n i X) : Short1 X.links := fun x hx => by have := h.hsmall x hx; omega

/-- Between two rounds: the token that came in, the one under way in the block g. -/
structure KnSt (w W : World) (g : Nat) (id tag : List UInt8) (A : Option Addr) (c n : Nat) (X : TokA) : Prop where
  ext : Ext w W
  tok : Arr W w.heap.size 24 [.string (ofL id), .slice A n c, .string (ofL tag)]
  cur : Arr W g 24 [.string (ofL X.id), .slice X.A X.l.length X.c, .string (ofL X.tag)]
  lnk : RdLinks W W.heap.size (.slice X.A X.l.length X.c) X.l
  far : 0 < X.l.length → ∀ b o, X.A = some ⟨b, o, none⟩ → b ≠ g
theorem KnSt.up {w W W' : World} {g : Nat} {id tag : List UInt8} {A : Option Addr} {c n : Nat} {X : TokA} (h : KnSt w W g id tag A c n X) (e : Ext W W') : KnSt w W' g id tag A c n X :=
  ⟨h.ext.tr e, h.tok.ext e h.tok.lt, h.cur.ext e h.cur.lt, rd_at h.lnk e, h.far⟩
theorem KnSt.put {w W : World} {g : Nat} {id tag : List UInt8} {A : Option Addr} {c n : Nat} {X : TokA} (h : KnSt w W g id tag A c n X) (hg : w.heap.size < g) (Y : TokA) (hl : RdLinks W W.heap.size (.slice Y.A Y.l.length Y.c) Y.l) (hf : 0 < Y.l.length → ∀ b o, Y.A = some ⟨b, o, none⟩ → b ≠ g) :
    KnSt w (((W.setCell ⟨g, 0, none⟩ (.string (ofL Y.id))).setCell ⟨g, 1, none⟩ (.slice Y.A Y.l.length Y.c)).setCell ⟨g, 2, none⟩ (.string (ofL Y.tag))) g id tag A c n Y :=
  ⟨((h.ext.st (p := ⟨g, 0, none⟩) (by show w.heap.size ≤ g; omega) _).st (p := ⟨g, 1, none⟩) (by show w.heap.size ≤ g; omega) _).st (p := ⟨g, 2, none⟩) (by show w.heap.size ≤ g; omega) _,
   ((h.tok.other _ (by omega)).other _ (by omega)).other _ (by omega), ((h.cur.set 0 _).set 1 _).set 2 _, by unfold RdLinks; simpa using rd_set (rd_set (rd_set hl hf _) hf _) hf _, hf⟩

set_option maxRecDepth 100000 in
set_option maxHeartbeats 16000000 in
theorem holderKnown_walk (k id tag : List UInt8) (A : Option Addr) (c : Nat) (l : List LinkL) (vs : Value) (ls : List (List UInt8)) (w : World) (hT : Tab w) (hl : RdLinks w w.heap.size (.slice A l.length c) l) (hs : Rd w w.heap.size 1 vs ls.length (ls.map Str)) :
    Calls Tryd.prog 6 #[.string (ofL k), tokV id (.slice A l.length c) tag, vs] w fun e w' => e = .returned (.bool true) ∧ Ext w w' := by
  have cW := Kp.mk howorks_any
  have zk : (ofL k).size = k.length := size_ofL _
  have HL := Kp.mk hl
  have HSl := Kp.mk hs
  obtain ⟨As, cs, rfl, hsm, _, hsc⟩ := hs
  have HC := Kp.mk hsc
  obtain ⟨W0, hW0, E0, B1⟩ := tok_box w (.string (ofL id)) (.slice A l.length c) (.string (ofL tag))
  obtain ⟨b, hb, hgr⟩ := great_det id tag l
  have cG := Kp.mk (hgr (.slice A l.length c) W0 (rd_at HL.out E0))
  have cH := Kp.mk (fun (W : World) (hW : Ext w W) => short_any ls 6 300 (.slice As ls.length cs) W (rd_at HSl.out hW) (by omega))
  have HW := Kp.mk hW0
  clear hl hW0 hgr hsc
  unfold tokV at *
  by_cases g1 : 100 < k.length
  · have F1 := E0
    have q1 := B1.cell 1
    simp only [List.getElem?_cons_zero, List.getElem?_cons_succ] at q1
    go_enter Tryd.func6, Tryd.ntmps6
    go_upto_region 1 with fail
    rw [HW.out]
    clear HW cG
    go_wp2_with fail
    refine (cW.out _ (hT.ext F1)).mono ?_
    rintro e w9 ⟨rfl, E9⟩
    go_wp2
    go_ret
    exact ⟨rfl, F1.tr E9⟩
  · by_cases g2 : 5 < l.length
    · have F1 := E0
      have q1 := B1.cell 1
      simp only [List.getElem?_cons_zero, List.getElem?_cons_succ] at q1
      go_enter Tryd.func6, Tryd.ntmps6
      go_upto_region 1 with fail
      rw [HW.out]
      clear HW cG
      go_wp2_with fail
      refine (cW.out _ (hT.ext F1)).mono ?_
      rintro e w9 ⟨rfl, E9⟩
      go_wp2
      go_ret
      exact ⟨rfl, F1.tr E9⟩
    · go_enter Tryd.func6, Tryd.ntmps6
      have q0 := B1.cell 0; have q1 := B1.cell 1; have q2 := B1.cell 2
      simp only [List.getElem?_cons_zero, List.getElem?_cons_succ] at q0 q1 q2
      go_upto_region 1 with fail
      rw [HW.out]
      clear HW
      go_wp2_with fail
      refine cG.out.mono ?_
      rintro e w1 ⟨rfl, E1⟩
      have F1 := E0.tr E1
      have C1 := B1.ext E1 B1.lt
      clear B1 E0 E1 cG q0 q1 q2
      cases b with
      | true =>
        go_wp2_with fail
        refine (cW.out _ (hT.ext F1)).mono ?_
        rintro e w9 ⟨rfl, E9⟩
        go_wp2
        go_ret
        exact ⟨rfl, F1.tr E9⟩
      | false =>
        have hsml := Kp.mk (hb.1 rfl)
        clear hb
        go_wp2_with fail
        refine (cH.out _ F1).mono ?_
        rintro e w2 ⟨rfl, E2⟩
        have F2 := F1.tr E2
        have C2 := C1.ext E2 C1.lt
        clear F1 C1 E2 cH
        obtain ⟨sb, hsb⟩ : ∃ sb, shortL ls 6 300 = sb := ⟨_, rfl⟩
        rw [hsb]
        cases sb with
        | false =>
          have F1 := F2
          clear hsb
          go_wp2_with fail
          refine (cW.out _ (hT.ext F1)).mono ?_
          rintro e w9 ⟨rfl, E9⟩
          go_wp2
          go_ret
          exact ⟨rfl, F1.tr E9⟩
        | true =>
          have hls6 : ls.length ≤ 6 := by
            unfold shortL at hsb
            rw [Bool.and_eq_true, decide_eq_true_eq, decide_eq_true_eq] at hsb
            exact hsb.1
          have hls3 := Kp.mk (show ∀ x ∈ ls, x.length ≤ 300 from fun x hx => by
            unfold shortL at hsb
            rw [Bool.and_eq_true, decide_eq_true_eq, decide_eq_true_eq] at hsb
            have := mem_lenSum ls x hx
            omega)
          clear hsb
          obtain ⟨T0, hT0⟩ : ∃ T0, lastL k id l = T0 := ⟨_, rfl⟩
          have K0 : KnownTok k id l.length 0 ⟨id, l, T0⟩ := ⟨rfl, hT0.symm, rfl, hsml.out.2.2.2.1⟩
          have cL := Kp.mk (show ∀ W, Tab W → RdLinks W W.heap.size (.slice A l.length c) l → Calls Tryd.prog 30 #[.string (ofL k), .agg #[.string (ofL id), .slice A l.length c, .string (ofL tag)]] W fun e w' => e = .returned (.string (ofL T0)) ∧ Ext W w' from fun W h1 h2 => by
            rw [← hT0]; exact last_any k id tag _ l W h1 (by omega) (by have := hsml.out.1; omega) h2 (smallShort hsml.out) (by omega))
          have HK0 := Kp.mk K0
          have hs2 := C2.lt
          clear hT0 K0
          go_upto_region 3 with fail
          refine wp_region_tailsE (fun i v W => match i with
            | 0 => v = .pointer (some ⟨w.heap.size, 0, none⟩)
            | 1 => v = .string (ofL id)
            | 2 => v = .pointer (some ⟨w.heap.size, 1, none⟩)
            | 3 => v = .slice A l.length c
            | 4 => v = .string (ofL k)
            | 5 => v = .agg #[.string (ofL id), .slice A l.length c, .string (ofL tag)]
            | 6 => v = .string (ofL T0)
            | 7 => v = .agg #[.string (ofL id), .slice A l.length c, .string (ofL T0)]
            | 8 => ∃ b, v = .pointer (some ⟨b, 0, none⟩) ∧ w2.heap.size ≤ b ∧ Arr W b 24 [.string ⟨#[]⟩, .slice none 0 0, .string ⟨#[]⟩]
            | _ => True) 9 (by kernel_rfl) (by kernel_rfl) (by kernel_rfl) (by decide) (by kernel_rfl) (by kernel_rfl) (by kernel_rfl) (by kernel_rfl) ?_ ?_ ?_
          · intro i v W1 W2 e1 e2 h
            match i, h with
            | 0, h => exact h
            | 1, h => exact h
            | 2, h => exact h
            | 3, h => exact h
            | 4, h => exact h
            | 5, h => exact h
            | 6, h => exact h
            | 7, h => exact h
            | 8, ⟨b, h1, h2, h3⟩ => exact ⟨b, h1, h2, h3.ext e2 h3.lt⟩
            | (i + 9), h => exact h
          · intro HF
            refine localsR_cons (fun u W hW hd => ?_) ?_
            · refine opLeaves_ev HF rfl fun ev zc zg zf zt => ?_
              have t4 : ev (.tmp 4) = .pointer (some ⟨w.heap.size, 0, none⟩) := zt 4
              clear zt
              exact ev_val (v := .pointer (some ⟨w.heap.size, 0, none⟩)) (by go_simp) rfl
            refine localsR_cons (fun u W hW hd => ?_) ?_
            · refine opLeaves_ev HF rfl fun ev zc zg zf zt => ?_
              have t35 : ev (.tmp 35) = u 0 := zt 35
              clear zt
              have h0 : u 0 = _ := hd 0 (by kernel_rfl)
              have q0 := (C2.ext hW C2.lt).cell 0
              simp only [List.getElem?_cons_zero] at q0
              exact ev_val (v := .string (ofL id)) (by go_simp) rfl
            refine localsR_cons (fun u W hW hd => ?_) ?_
            · refine opLeaves_ev HF rfl fun ev zc zg zf zt => ?_
              have t4 : ev (.tmp 4) = .pointer (some ⟨w.heap.size, 0, none⟩) := zt 4
              clear zt
              exact ev_val (v := .pointer (some ⟨w.heap.size, 1, none⟩)) (by go_simp) rfl
            refine localsR_cons (fun u W hW hd => ?_) ?_
            · refine opLeaves_ev HF rfl fun ev zc zg zf zt => ?_
              have t37 : ev (.tmp 37) = u 2 := zt 37
              clear zt
              have h2 : u 2 = _ := hd 2 (by kernel_rfl)
              have q1 := (C2.ext hW C2.lt).cell 1
              simp only [List.getElem?_cons_zero, List.getElem?_cons_succ] at q1
              exact ev_val (v := .slice A l.length c) (by go_simp) rfl
            refine localsR_cons (fun u W hW hd => ?_) ?_
            · refine opLeaves_ev HF rfl fun ev zc zg zf zt => ?_
              have t0 : ev (.tmp 0) = .string (ofL k) := zt 0
              clear zt
              exact ev_val (v := .string (ofL k)) (by go_simp) rfl
            refine localsR_cons (fun u W hW hd => ?_) ?_
            · refine opLeaves_ev HF rfl fun ev zc zg zf zt => ?_
              have t4 : ev (.tmp 4) = .pointer (some ⟨w.heap.size, 0, none⟩) := zt 4
              clear zt
              have q0 := (C2.ext hW C2.lt).cell 0; have q1 := (C2.ext hW C2.lt).cell 1; have q2 := (C2.ext hW C2.lt).cell 2
              simp only [List.getElem?_cons_zero, List.getElem?_cons_succ] at q0 q1 q2
              exact ev_val (v := .agg #[.string (ofL id), .slice A l.length c, .string (ofL tag)]) (by go_simp) rfl
            refine localsR_cons (fun u W hW hd => ?_) ?_
            · refine opLeaves_ev HF rfl fun ev zc zg zf zt => ?_
              have t39 : ev (.tmp 39) = u 4 := zt 39
              have t40 : ev (.tmp 40) = u 5 := zt 40
              clear zt
              have h4 : u 4 = _ := hd 4 (by kernel_rfl)
              have h5 : u 5 = _ := hd 5 (by kernel_rfl)
              exact ev_call (f := 30) (args := #[.string (ofL k), .agg #[.string (ofL id), .slice A l.length c, .string (ofL tag)]]) (by go_simp) ((cL.out W (hT.ext (F2.tr hW)) (rd_at HL.out (F2.tr hW))).mono (by rintro e9 W9 ⟨rfl, h9⟩; exact ⟨_, rfl, h9, rfl⟩))
            refine localsR_cons (fun u W hW hd => ?_) ?_
            · refine opLeaves_ev HF rfl fun ev zc zg zf zt => ?_
              have t36 : ev (.tmp 36) = u 1 := zt 36
              have t38 : ev (.tmp 38) = u 3 := zt 38
              have t41 : ev (.tmp 41) = u 6 := zt 41
              clear zt
              have h1 : u 1 = _ := hd 1 (by kernel_rfl)
              have h3 : u 3 = _ := hd 3 (by kernel_rfl)
              have h6 : u 6 = _ := hd 6 (by kernel_rfl)
              exact ev_val (v := .agg #[.string (ofL id), .slice A l.length c, .string (ofL T0)]) (by go_simp) rfl
            refine localsR_cons (fun u W hW hd => ?_) localsR_nil
            · refine opLeaves_ev HF rfl fun ev zc zg zf zt => ?_
              clear zt
              exact ev_new (v := .pointer (some ⟨W.heap.size, 0, none⟩)) (w' := W.alloc (.cells #[.string ⟨#[]⟩, .slice none 0 0, .string ⟨#[]⟩] 24)) (by go_simp) ((Ext.rfl' W).al _) ⟨_, rfl, hW.size, Arr.new W _ [.string ⟨#[]⟩, .slice none 0 0, .string ⟨#[]⟩]⟩
          · intro u W hW hV
            have h7 : u 7 = _ := hV 7 (by decide)
            obtain ⟨g, h8, hg, hG⟩ := hV 8 (by decide)
            clear hV
            have F3 := F2.tr hW
            have C3 := C2.ext hW C2.lt
            have q0 := hG.cell 0; have q1 := hG.cell 1; have q2 := hG.cell 2
            have z0 := hG.frozen 0; have z1 := hG.frozen 1; have z2 := hG.frozen 2
            simp only [List.getElem?_cons_zero, List.getElem?_cons_succ] at q0 q1 q2
            go_simp
            go_wp2_with fail
            obtain ⟨W1, hW1⟩ : ∃ W1 : World, W1 = ((W.setCell ⟨g, 0, none⟩ (.string (ofL id))).setCell ⟨g, 1, none⟩ (.slice A l.length c)).setCell ⟨g, 2, none⟩ (.string (ofL T0)) := ⟨_, rfl⟩
            rw [← hW1]
            have S0 : KnSt w W1 g id tag A c l.length ⟨id, T0, A, c, l⟩ := by
              rw [hW1]
              have hf : 0 < l.length → ∀ b o, A = some ⟨b, o, none⟩ → b ≠ g := fun h0 b o e => by
                obtain ⟨A', c', e', _, hh⟩ := HL.out.cells
                cases e'
                obtain ⟨b', o', e2, hb', _⟩ := hh h0
                rw [e2] at e
                cases e
                omega
              exact ⟨((F3.st (p := ⟨g, 0, none⟩) (by show w.heap.size ≤ g; omega) _).st (p := ⟨g, 1, none⟩) (by show w.heap.size ≤ g; omega) _).st (p := ⟨g, 2, none⟩) (by show w.heap.size ≤ g; omega) _,
                ((C3.other _ (by omega)).other _ (by omega)).other _ (by omega), ((hG.set 0 _).set 1 _).set 2 _, by unfold RdLinks; simpa using rd_set (rd_set (rd_set (rd_at HL.out F3) hf _) hf _) hf _, hf⟩
            have hwg : w.heap.size < g := by omega
            clear hW1 F3 C3 hG q0 q1 q2 z0 z1 z2 F2 C2 hW h7 h8 cL
            go_loopw [8] (fun i wr => ∃ (j : Nat) (X : TokA), j ≤ ls.length ∧ i = .int .i64 j ∧ KnownTok k id l.length j X.plain ∧ KnSt w wr g id tag A c l.length X) (fun i _ => ls.length - (intOf i).toNat)
            case atStart => exact ⟨0, ⟨id, T0, A, c, l⟩, by omega, rfl, HK0.out, S0⟩
            case round =>
              clear S0
              obtain ⟨j, X, hj, rfl, hK, hS⟩ := hrel
              have HK := Kp.mk hK
              have hlen := hK.hlen
              clear hK
              by_cases hlt : j < ls.length
              · obtain ⟨xi, xt, XA, xc, xl⟩ := X
                obtain ⟨bk, ok, rfl, hbk, hc⟩ := HC.out (by omega)
                obtain ⟨s, hs⟩ : ∃ s, ls[j] = s := ⟨_, rfl⟩
                have q := Kp.mk (show ∀ W, Ext w W → W.cell? ⟨bk, ok + j, none⟩ = some (.string (ofL s)) from fun W hW => by
                  have h := hc j (.string (ofL s)) (by rw [List.getElem?_map, List.getElem?_eq_getElem hlt, hs]; rfl)
                  exact ((bcell hW).1 bk _ hbk).trans h)
                have hs3 : s.length ≤ 300 := by rw [← hs]; exact hls3.out _ (List.getElem_mem hlt)
                have zs : (ofL s).size = s.length := size_ofL _
                have hlen : xl.length = l.length + j := hlen
                have htagx : xt = lastL k xi xl := by have h1 := HK.out.htag; have h2 := HK.out.hid; rw [← h2] at h1; exact h1
                have hxi : xi.length ≤ 4200 := by have h := HK.out.hid; have h : xi = id := h; rw [h]; exact hsml.out.1
                have lxt : xt.length = 32 := by rw [htagx]; exact length_lastL _ _ _
                obtain ⟨K, hKs⟩ : ∃ K, sealL xt = K := ⟨_, rfl⟩
                have lK : K.length = 32 := by rw [← hKs]; exact length_partsL _ _
                obtain ⟨S, hSb⟩ : ∃ S, boxL K nonce0 theKey = S := ⟨_, rfl⟩
                have lS : S.length = 55 := by rw [← hSb, length_boxL]; rfl
                obtain ⟨Yt, hY⟩ : ∃ Yt, nextL xt (s, []) = Yt := ⟨_, rfl⟩
                obtain ⟨Zt, hZ⟩ : ∃ Zt, nextL xt (s, S) = Zt := ⟨_, rfl⟩
                have lY : Yt.length = 32 := by rw [← hY]; exact length_partsL _ _
                have lZ : Zt.length = 32 := by rw [← hZ]; exact length_partsL _ _
                have KY := Kp.mk (show KnownTok k id l.length (j + 1) ⟨xi, xl ++ [(s, [])], Yt⟩ by have h := HK.out.next (s, []) (by dsimp only; omega) (by simp); rw [← hY]; exact h)
                have KZ := Kp.mk (show KnownTok k id l.length (j + 1) ⟨xi, xl ++ [(s, S)], Zt⟩ by have h := HK.out.next (s, S) (by dsimp only; omega) (by dsimp only; omega); rw [← hZ]; exact h)
                obtain ⟨nx, hnx⟩ : ∃ nx, xl.length = nx := ⟨_, rfl⟩
                have cA := Kp.mk (show ∀ W, Tab W → RdLinks W W.heap.size (.slice XA nx xc) xl → Calls Tryd.prog 24 #[.agg #[.string (ofL xi), .slice XA nx xc, .string (ofL xt)], .string (ofL s)] W fun e w' => ∃ v, e = .returned v ∧ Ext W w' ∧ ∃ A1 c1, v = .tuple #[.agg #[.string (ofL xi), .slice A1 (nx + 1) c1, .string (ofL Yt)], .int .i64 0] ∧ w'.ownsRow W.heap.size 52 2 (.slice A1 (nx + 1) c1) (nx + 1) (linkCells (xl ++ [(s, [])])) from fun W h1 h2 => by
                  have h := hoadd_any xi xt s XA xc xl W h1 (by rw [hnx]; exact h2) (by omega) (by omega) (by omega)
                  rw [addL_ok (by show xl.length < 64; omega) (by omega)] at h
                  unfold tokV at h
                  rw [hnx] at h
                  refine h.mono fun e w' ⟨v, h1, h2, h3⟩ => ?_
                  obtain ⟨A1, c1, rfl⟩ := own_slice h2
                  have hl1 : (withL ⟨xi, xl, xt⟩ (s, [])).links.length = nx + 1 := by simp [withL, hnx]
                  dsimp only at h1 h2
                  rw [hl1] at h1 h2
                  refine ⟨_, h1, h3, A1, c1, ?_, h2⟩
                  rw [← hY]; rfl)
                have cT := Kp.mk (show ∀ W, Tab W → RdLinks W W.heap.size (.slice XA nx xc) xl → Calls Tryd.prog 26 #[.agg #[.string (ofL xi), .slice XA nx xc, .string (ofL xt)], .string (ofL s), .string ⟨#[116, 104, 101, 32, 107, 101, 121]⟩, .string ⟨#[48, 49, 50, 51, 52, 53, 54, 55, 56, 57, 97, 98, 99, 100, 101, 102]⟩] W fun e w' => ∃ v, e = .returned v ∧ Ext W w' ∧ ∃ A1 c1, v = .tuple #[.agg #[.string (ofL xi), .slice A1 (nx + 1) c1, .string (ofL Zt)], .int .i64 0] ∧ w'.ownsRow W.heap.size 52 2 (.slice A1 (nx + 1) c1) (nx + 1) (linkCells (xl ++ [(s, S)])) from fun W h1 h2 => by
                  have h := hothird_any xi xt s theKey nonce0 XA xc xl W h1 (by rw [hnx]; exact h2) (by omega) (by omega) (by omega)
                  have hR : thirdR ⟨xi, xl, xt⟩ s theKey nonce0 = (withL ⟨xi, xl, xt⟩ (s, S), 0) := by
                    rw [thirdR_seal (by show xl.length < 64; omega) (by omega)]
                    dsimp only
                    rw [hKs, sealR_ok rfl (by decide), hSb, if_pos rfl]
                  rw [hR] at h
                  unfold tokV at h
                  rw [hnx] at h
                  refine h.mono fun e w' ⟨v, h1, h2, h3⟩ => ?_
                  obtain ⟨A1, c1, rfl⟩ := own_slice h2
                  have hl1 : (withL ⟨xi, xl, xt⟩ (s, S)).links.length = nx + 1 := by simp [withL, hnx]
                  dsimp only at h1 h2
                  rw [hl1] at h1 h2
                  refine ⟨_, h1, h3, A1, c1, ?_, h2⟩
                  rw [← hZ]; rfl)
                have cLY := Kp.mk (show ∀ (A1 : Option Addr) (c1 : Nat) (W : World), Tab W → RdLinks W W.heap.size (.slice A1 (nx + 1) c1) (xl ++ [(s, [])]) → Calls Tryd.prog 30 #[.string (ofL k), .agg #[.string (ofL xi), .slice A1 (nx + 1) c1, .string (ofL Yt)]] W fun e w' => e = .returned (.string (ofL Yt)) ∧ Ext W w' from fun A1 c1 W h1 h2 => by
                  have h := last_any k xi Yt (.slice A1 (nx + 1) c1) _ W h1 (by omega) (by omega) h2 KY.out.short (by simp; omega)
                  have h9 : Yt = lastL k xi (xl ++ [(s, [])]) := by have h1 := KY.out.htag; have h2 := KY.out.hid; rw [← h2] at h1; exact h1
                  rw [← h9] at h
                  exact h)
                have cLZ := Kp.mk (show ∀ (A1 : Option Addr) (c1 : Nat) (W : World), Tab W → RdLinks W W.heap.size (.slice A1 (nx + 1) c1) (xl ++ [(s, S)]) → Calls Tryd.prog 30 #[.string (ofL k), .agg #[.string (ofL xi), .slice A1 (nx + 1) c1, .string (ofL Zt)]] W fun e w' => e = .returned (.string (ofL Zt)) ∧ Ext W w' from fun A1 c1 W h1 h2 => by
                  have h := last_any k xi Zt (.slice A1 (nx + 1) c1) _ W h1 (by omega) (by omega) h2 KZ.out.short (by simp; omega)
                  have h9 : Zt = lastL k xi (xl ++ [(s, S)]) := by have h1 := KZ.out.htag; have h2 := KZ.out.hid; rw [← h2] at h1; exact h1
                  rw [← h9] at h
                  exact h)
                have cK := Kp.mk (show ∀ W, Tab W → Calls Tryd.prog 31 #[.string (ofL xt)] W fun e w' => e = .returned (.string (ofL K)) ∧ Ext W w' from fun W h => by rw [← hKs]; exact seal_any xt W h (by omega))
                have cO := Kp.mk (show ∀ W, Tab W → Calls Tryd.prog 21 #[.string (ofL K), .string (ofL S)] W fun e w' => e = .returned (.tuple #[.string ⟨#[116, 104, 101, 32, 107, 101, 121]⟩, .int .i64 0]) ∧ Ext W w' from fun W h => by
                  have h2 := open_any K S W h (by omega)
                  rw [← hSb, open_box K nonce0 theKey rfl (by decide), hSb] at h2
                  exact h2)
                have dS : S.isEmpty = false := isEmpty_ne (by intro h; rw [h] at lS; cases lS)
                have hlast := Kp.mk (show (linkCells (xl ++ [(s, S)]))[nx * 2 + 1]? = some (.string (ofL S)) by
                  have h := (linkCells_get (xl ++ [(s, S)]) nx (by simp; omega)).2
                  rw [h]
                  simp [← hnx])
                have lk0 := hS.lnk
                have cu0 := hS.cur
                dsimp only at lk0 cu0
                rw [hnx] at lk0 cu0
                have LK := Kp.mk lk0
                have hnx10 : nx ≤ 11 := by omega
                have hgl := cu0.lt
                have HNX := Kp.mk hnx
                have Sup := Kp.mk (fun (W : World) (e : Ext wr W) => hS.up e)
                have hEx := hS.ext
                clear hS lk0 hc hs htagx hKs hSb hY hZ hnx HK
                go_upto_region 7 with fail
                refine wp_region_stageE [10] (fun bs W => Ext wr W) (fun bs i v W => match i with
                  | 0 => v = .agg #[.string (ofL xi), .slice XA nx xc, .string (ofL xt)]
                  | 1 => v = .slice (some ⟨bk, ok, none⟩) ls.length cs
                  | 2 => v = .int .i64 j
                  | 3 => v = .pointer (some ⟨bk, ok + j, none⟩)
                  | 4 => v = .string (ofL s)
                  | 5 => ∃ A1 c1, v = .tuple #[.agg #[.string (ofL xi), .slice A1 (nx + 1) c1, .string (ofL Yt)], .int .i64 0] ∧ W.ownsRow wr.heap.size 52 2 (.slice A1 (nx + 1) c1) (nx + 1) (linkCells (xl ++ [(s, [])]))
                  | 6 => ∃ A1 c1, v = .tuple #[.agg #[.string (ofL xi), .slice A1 (nx + 1) c1, .string (ofL Yt)], .int .i64 0] ∧ W.ownsRow wr.heap.size 52 2 (.slice A1 (nx + 1) c1) (nx + 1) (linkCells (xl ++ [(s, [])]))
                  | 7 => ∃ A1 c1, v = .agg #[.string (ofL xi), .slice A1 (nx + 1) c1, .string (ofL Yt)] ∧ W.ownsRow wr.heap.size 52 2 (.slice A1 (nx + 1) c1) (nx + 1) (linkCells (xl ++ [(s, [])]))
                  | 8 => v = .int .i64 0
                  | 9 => ∃ b, v = .pointer (some ⟨b, 0, none⟩) ∧ wr.heap.size ≤ b ∧ (bs[0]? = some false → Arr W b 24 [.string ⟨#[]⟩, .slice none 0 0, .string ⟨#[]⟩]) ∧ (bs[0]? = some true → ∃ A1 c1, Arr W b 24 [.string (ofL xi), .slice A1 (nx + 1) c1, .string (ofL Yt)] ∧ W.ownsRow wr.heap.size 52 2 (.slice A1 (nx + 1) c1) (nx + 1) (linkCells (xl ++ [(s, [])])))
                  | 10 => bs[0]? = some true
                  | 11 => v = .int .i64 0
                  | _ => True) (cs_inj (by decide)) (by decide) (by kernel_rfl) (by kernel_rfl) (by kernel_rfl) (by kernel_rfl) ((Ext.rfl' wr).dr) (fun bs W1 W2 h e => h.tr e) ?_ ?_ ?_
                · intro bs i v W1 W2 e1 e2 h
                  match i, h with
                  | 0, h => exact h
                  | 1, h => exact h
                  | 2, h => exact h
                  | 3, h => exact h
                  | 4, h => exact h
                  | 5, ⟨A1, c1, h1, h2⟩ => exact ⟨A1, c1, h1, own_ext h2 (fun j _ hj => e2.block j hj)⟩
                  | 6, ⟨A1, c1, h1, h2⟩ => exact ⟨A1, c1, h1, own_ext h2 (fun j _ hj => e2.block j hj)⟩
                  | 7, ⟨A1, c1, h1, h2⟩ => exact ⟨A1, c1, h1, own_ext h2 (fun j _ hj => e2.block j hj)⟩
                  | 8, h => exact h
                  | 9, ⟨b, h1, h2, h3, h4⟩ => exact ⟨b, h1, h2, fun hb => (h3 hb).ext e2 (h3 hb).lt, fun hb => by obtain ⟨A1, c1, h5, h6⟩ := h4 hb; exact ⟨A1, c1, h5.ext e2 h5.lt, own_ext h6 (fun j _ hj => e2.block j hj)⟩⟩
                  | 10, h => exact h
                  | 11, h => exact h
                  | (i + 12), h => exact h
                · intro HF
                  refine localsQ_ord (by decide) (fun bs u W hbs hW hno hd => ?_) ?_
                  · refine opLeaves_ev HF rfl fun ev zc zg zf zt => ?_
                    have t7 : ev (.tmp 7) = .pointer (some ⟨g, 0, none⟩) := zt 7
                    clear zt
                    have q0 := (cu0.ext hW hgl).cell 0; have q1 := (cu0.ext hW hgl).cell 1; have q2 := (cu0.ext hW hgl).cell 2
                    simp only [List.getElem?_cons_zero, List.getElem?_cons_succ] at q0 q1 q2
                    exact ev_val (v := .agg #[.string (ofL xi), .slice XA nx xc, .string (ofL xt)]) (by go_simp) rfl
                  refine localsQ_ord (by decide) (fun bs u W hbs hW hno hd => ?_) ?_
                  · refine opLeaves_ev HF rfl fun ev zc zg zf zt => ?_
                    have t2 : ev (.tmp 2) = .slice (some ⟨bk, ok, none⟩) ls.length cs := zt 2
                    clear zt
                    exact ev_val (v := .slice (some ⟨bk, ok, none⟩) ls.length cs) (by go_simp) rfl
                  refine localsQ_ord (by decide) (fun bs u W hbs hW hno hd => ?_) ?_
                  · refine opLeaves_ev HF rfl fun ev zc zg zf zt => ?_
                    have t8 : ev (.tmp 8) = .int .i64 j := zt 8
                    clear zt
                    exact ev_val (v := .int .i64 j) (by go_simp) rfl
                  refine localsQ_ord (by decide) (fun bs u W hbs hW hno hd => ?_) ?_
                  · refine opLeaves_ev HF rfl fun ev zc zg zf zt => ?_
                    have t51 : ev (.tmp 51) = u 1 := zt 51
                    have t52 : ev (.tmp 52) = u 2 := zt 52
                    clear zt
                    have h1 : u 1 = _ := hd 1 (by kernel_rfl)
                    have h2 : u 2 = _ := hd 2 (by kernel_rfl)
                    exact ev_val (v := .pointer (some ⟨bk, ok + j, none⟩)) (by go_simp) rfl
                  refine localsQ_ord (by decide) (fun bs u W hbs hW hno hd => ?_) ?_
                  · refine opLeaves_ev HF rfl fun ev zc zg zf zt => ?_
                    have t53 : ev (.tmp 53) = u 3 := zt 53
                    clear zt
                    have h3 : u 3 = _ := hd 3 (by kernel_rfl)
                    have q0 := q.out W (hEx.tr hW)
                    exact ev_val (v := .string (ofL s)) (by go_simp) rfl
                  refine localsQ_ord (by decide) (fun bs u W hbs hW hno hd => ?_) ?_
                  · refine opLeaves_ev HF rfl fun ev zc zg zf zt => ?_
                    have t50 : ev (.tmp 50) = u 0 := zt 50
                    have t54 : ev (.tmp 54) = u 4 := zt 54
                    clear zt
                    have h0 : u 0 = _ := hd 0 (by kernel_rfl)
                    have h4 : u 4 = _ := hd 4 (by kernel_rfl)
                    exact ev_call (f := 24) (args := #[.agg #[.string (ofL xi), .slice XA nx xc, .string (ofL xt)], .string (ofL s)]) (by go_simp) ((cA.out W (hT.ext (hEx.tr hW)) (rd_at LK.out hW)).mono (fun e9 W9 ⟨v9, h1, h2, A1, c1, h3, h4⟩ => ⟨v9, h1, h2, A1, c1, h3, own_more h4 hW.size⟩))
                  refine localsQ_ord (by decide) (fun bs u W hbs hW hno hd => ?_) ?_
                  · refine opLeaves_ev HF rfl fun ev zc zg zf zt => ?_
                    have t55 : ev (.tmp 55) = u 5 := zt 55
                    clear zt
                    have h5 := hd 5 (by kernel_rfl)
                    exact ev_val (v := u 5) (by go_simp) h5
                  refine localsQ_ord (by decide) (fun bs u W hbs hW hno hd => ?_) ?_
                  · refine opLeaves_ev HF rfl fun ev zc zg zf zt => ?_
                    have t49 : ev (.tmp 49) = u 6 := zt 49
                    clear zt
                    have h6 := hd 6 (by kernel_rfl)
                    obtain ⟨A1, c1, e5, o5⟩ := h6
                    exact ev_val (v := .agg #[.string (ofL xi), .slice A1 (nx + 1) c1, .string (ofL Yt)]) (by go_simp) ⟨A1, c1, rfl, o5⟩
                  refine localsQ_ord (by decide) (fun bs u W hbs hW hno hd => ?_) ?_
                  · refine opLeaves_ev HF rfl fun ev zc zg zf zt => ?_
                    have t49 : ev (.tmp 49) = u 6 := zt 49
                    clear zt
                    have h6 := hd 6 (by kernel_rfl)
                    obtain ⟨A1, c1, e5, o5⟩ := h6
                    exact ev_val (v := .int .i64 0) (by go_simp) rfl
                  refine localsQ_ord (by decide) (fun bs u W hbs hW hno hd => ?_) ?_
                  · refine opLeaves_ev HF rfl fun ev zc zg zf zt => ?_
                    clear zt
                    exact ev_new (v := .pointer (some ⟨W.heap.size, 0, none⟩)) (w' := W.alloc (.cells #[.string ⟨#[]⟩, .slice none 0 0, .string ⟨#[]⟩] 24)) (by go_simp) ((Ext.rfl' W).al _) ⟨_, rfl, hW.size, fun _ => Arr.new W _ [.string ⟨#[]⟩, .slice none 0 0, .string ⟨#[]⟩], fun hb => nomatch ((Eq.trans (by kernel_rfl) (hno 0 10 _ hb rfl rfl)) : true = false)⟩
                  refine localsQ_turnT 0 rfl (fun q hq => cs_inj (cs := [10]) (by decide) 0 q _ rfl hq) (fun bs u W hbs hb0 hW hd hcs => ?_) ?_
                  · have h9 := hd 9 (by kernel_rfl)
                    have h7 := hd 7 (by kernel_rfl)
                    have hset : (bs.set 0 true)[0]? = some true := List.getElem?_set_self (by rw [hbs]; decide)
                    obtain ⟨A1, c1, e7, o7⟩ := h7
                    obtain ⟨g9, e9, hg9, hc9, _⟩ := h9
                    have hA9 := hc9 hb0
                    obtain ⟨W', hW'⟩ : ∃ W' : World, W' = ((W.setCell ⟨g9, 0, none⟩ (.string (ofL xi))).setCell ⟨g9, 1, none⟩ (.slice A1 (nx + 1) c1)).setCell ⟨g9, 2, none⟩ (.string (ofL Yt)) := ⟨_, rfl⟩
                    refine turnOk_skip (w' := W') rfl (by rw [hW']; exact run_store_tok rfl (by go_simp) (by go_simp) hA9) ?_ hset ?_
                    · rw [hW']; exact ((hW.st (p := ⟨g9, 0, none⟩) hg9 _).st (p := ⟨g9, 1, none⟩) hg9 _).st (p := ⟨g9, 2, none⟩) hg9 _
                    · intro k h
                      match k, h with
                      | 0, h => exact h
                      | 1, h => exact h
                      | 2, h => exact h
                      | 3, h => exact h
                      | 4, h => exact h
                      | 5, ⟨A1, c1, h1, h2⟩ => exact ⟨A1, c1, h1, by rw [hW']; exact own_set_other (own_set_other (own_set_other h2 hA9 (by decide) _) (hA9.set 0 _) (by decide) _) ((hA9.set 0 _).set 1 _) (by decide) _⟩
                      | 6, ⟨A1, c1, h1, h2⟩ => exact ⟨A1, c1, h1, by rw [hW']; exact own_set_other (own_set_other (own_set_other h2 hA9 (by decide) _) (hA9.set 0 _) (by decide) _) ((hA9.set 0 _).set 1 _) (by decide) _⟩
                      | 7, ⟨A1, c1, h1, h2⟩ => exact ⟨A1, c1, h1, by rw [hW']; exact own_set_other (own_set_other (own_set_other h2 hA9 (by decide) _) (hA9.set 0 _) (by decide) _) ((hA9.set 0 _).set 1 _) (by decide) _⟩
                      | 8, h => exact h
                      | 9, ⟨b, h1, h2, _, _⟩ => rw [e9] at h1; cases h1; exact ⟨g9, e9, h2, fun hb => (by rw [hset] at hb; cases hb), fun _ => ⟨A1, c1, by rw [hW']; exact ((hA9.set 0 _).set 1 _).set 2 _, by rw [hW']; exact own_set_other (own_set_other (own_set_other o7 hA9 (by decide) _) (hA9.set 0 _) (by decide) _) ((hA9.set 0 _).set 1 _) (by decide) _⟩⟩
                      | 10, _ => exact hset
                      | 11, h => exact h
                      | (k + 12), h => exact h
                  refine localsQ_ord (by decide) (fun bs u W hbs hW hno hd => ?_) localsQ_nil
                  · refine opLeaves_ev HF rfl fun ev zc zg zf zt => ?_
                    have t57 : ev (.tmp 57) = u 8 := zt 57
                    clear zt
                    have h8 : u 8 = _ := hd 8 (by kernel_rfl)
                    exact ev_val (v := .int .i64 0) (by go_simp) rfl
                · intro u W7 E7 hV
                  obtain ⟨g9, h9, hg9, _, hr9⟩ := hV 9 (by decide)
                  obtain ⟨A1, c1, A7, O7⟩ := hr9 rfl
                  have h11 : u 11 = _ := hV 11 (by decide)
                  clear hV hr9
                  go_simp
                  go_upto_region 8 with fail
                  have cu7 := cu0.ext E7 hgl
                  have hgl7 := cu7.lt
                  have hEx7 := hEx.tr E7
                  have hs7 := E7.size
                  refine wp_region_stageE [10] (fun bs W => Ext W7 W) (fun bs i v W => match i with
                    | 0 => v = .agg #[.string (ofL xi), .slice XA nx xc, .string (ofL xt)]
                    | 1 => v = .slice (some ⟨bk, ok, none⟩) ls.length cs
                    | 2 => v = .int .i64 j
                    | 3 => v = .pointer (some ⟨bk, ok + j, none⟩)
                    | 4 => v = .string (ofL s)
                    | 5 => ∃ A1 c1, v = .tuple #[.agg #[.string (ofL xi), .slice A1 (nx + 1) c1, .string (ofL Zt)], .int .i64 0] ∧ W.ownsRow wr.heap.size 52 2 (.slice A1 (nx + 1) c1) (nx + 1) (linkCells (xl ++ [(s, S)]))
                    | 6 => ∃ A1 c1, v = .tuple #[.agg #[.string (ofL xi), .slice A1 (nx + 1) c1, .string (ofL Zt)], .int .i64 0] ∧ W.ownsRow wr.heap.size 52 2 (.slice A1 (nx + 1) c1) (nx + 1) (linkCells (xl ++ [(s, S)]))
                    | 7 => ∃ A1 c1, v = .agg #[.string (ofL xi), .slice A1 (nx + 1) c1, .string (ofL Zt)] ∧ W.ownsRow wr.heap.size 52 2 (.slice A1 (nx + 1) c1) (nx + 1) (linkCells (xl ++ [(s, S)]))
                    | 8 => v = .int .i64 0
                    | 9 => ∃ b, v = .pointer (some ⟨b, 0, none⟩) ∧ W7.heap.size ≤ b ∧ (bs[0]? = some false → Arr W b 24 [.string ⟨#[]⟩, .slice none 0 0, .string ⟨#[]⟩]) ∧ (bs[0]? = some true → ∃ A1 c1, Arr W b 24 [.string (ofL xi), .slice A1 (nx + 1) c1, .string (ofL Zt)] ∧ W.ownsRow wr.heap.size 52 2 (.slice A1 (nx + 1) c1) (nx + 1) (linkCells (xl ++ [(s, S)])))
                    | 10 => bs[0]? = some true
                    | 11 => v = .int .i64 0
                    | _ => True) (cs_inj (by decide)) (by decide) (by kernel_rfl) (by kernel_rfl) (by kernel_rfl) (by kernel_rfl) ((Ext.rfl' W7).dr) (fun bs W1 W2 h e => h.tr e) ?_ ?_ ?_
                  · intro bs i v W1 W2 e1 e2 h
                    match i, h with
                    | 0, h => exact h
                    | 1, h => exact h
                    | 2, h => exact h
                    | 3, h => exact h
                    | 4, h => exact h
                    | 5, ⟨A1, c1, h1, h2⟩ => exact ⟨A1, c1, h1, own_ext h2 (fun j _ hj => e2.block j hj)⟩
                    | 6, ⟨A1, c1, h1, h2⟩ => exact ⟨A1, c1, h1, own_ext h2 (fun j _ hj => e2.block j hj)⟩
                    | 7, ⟨A1, c1, h1, h2⟩ => exact ⟨A1, c1, h1, own_ext h2 (fun j _ hj => e2.block j hj)⟩
                    | 8, h => exact h
                    | 9, ⟨b, h1, h2, h3, h4⟩ => exact ⟨b, h1, h2, fun hb => (h3 hb).ext e2 (h3 hb).lt, fun hb => by obtain ⟨A1, c1, h5, h6⟩ := h4 hb; exact ⟨A1, c1, h5.ext e2 h5.lt, own_ext h6 (fun j _ hj => e2.block j hj)⟩⟩
                    | 10, h => exact h
                    | 11, h => exact h
                    | (i + 12), h => exact h
                  · intro HF
                    refine localsQ_ord (by decide) (fun bs u W hbs hW hno hd => ?_) ?_
                    · refine opLeaves_ev HF rfl fun ev zc zg zf zt => ?_
                      have t7 : ev (.tmp 7) = .pointer (some ⟨g, 0, none⟩) := zt 7
                      clear zt
                      have q0 := (cu7.ext hW hgl7).cell 0; have q1 := (cu7.ext hW hgl7).cell 1; have q2 := (cu7.ext hW hgl7).cell 2
                      simp only [List.getElem?_cons_zero, List.getElem?_cons_succ] at q0 q1 q2
                      exact ev_val (v := .agg #[.string (ofL xi), .slice XA nx xc, .string (ofL xt)]) (by go_simp) rfl
                    refine localsQ_ord (by decide) (fun bs u W hbs hW hno hd => ?_) ?_
                    · refine opLeaves_ev HF rfl fun ev zc zg zf zt => ?_
                      have t2 : ev (.tmp 2) = .slice (some ⟨bk, ok, none⟩) ls.length cs := zt 2
                      clear zt
                      exact ev_val (v := .slice (some ⟨bk, ok, none⟩) ls.length cs) (by go_simp) rfl
                    refine localsQ_ord (by decide) (fun bs u W hbs hW hno hd => ?_) ?_
                    · refine opLeaves_ev HF rfl fun ev zc zg zf zt => ?_
                      have t8 : ev (.tmp 8) = .int .i64 j := zt 8
                      clear zt
                      exact ev_val (v := .int .i64 j) (by go_simp) rfl
                    refine localsQ_ord (by decide) (fun bs u W hbs hW hno hd => ?_) ?_
                    · refine opLeaves_ev HF rfl fun ev zc zg zf zt => ?_
                      have t60 : ev (.tmp 60) = u 1 := zt 60
                      have t61 : ev (.tmp 61) = u 2 := zt 61
                      clear zt
                      have h1 : u 1 = _ := hd 1 (by kernel_rfl)
                      have h2 : u 2 = _ := hd 2 (by kernel_rfl)
                      exact ev_val (v := .pointer (some ⟨bk, ok + j, none⟩)) (by go_simp) rfl
                    refine localsQ_ord (by decide) (fun bs u W hbs hW hno hd => ?_) ?_
                    · refine opLeaves_ev HF rfl fun ev zc zg zf zt => ?_
                      have t62 : ev (.tmp 62) = u 3 := zt 62
                      clear zt
                      have h3 : u 3 = _ := hd 3 (by kernel_rfl)
                      have q0 := q.out W (hEx7.tr hW)
                      exact ev_val (v := .string (ofL s)) (by go_simp) rfl
                    refine localsQ_ord (by decide) (fun bs u W hbs hW hno hd => ?_) ?_
                    · refine opLeaves_ev HF rfl fun ev zc zg zf zt => ?_
                      have t59 : ev (.tmp 59) = u 0 := zt 59
                      have t63 : ev (.tmp 63) = u 4 := zt 63
                      clear zt
                      have h0 : u 0 = _ := hd 0 (by kernel_rfl)
                      have h4 : u 4 = _ := hd 4 (by kernel_rfl)
                      exact ev_call (f := 26) (args := #[.agg #[.string (ofL xi), .slice XA nx xc, .string (ofL xt)], .string (ofL s), .string ⟨#[116, 104, 101, 32, 107, 101, 121]⟩, .string ⟨#[48, 49, 50, 51, 52, 53, 54, 55, 56, 57, 97, 98, 99, 100, 101, 102]⟩]) (by go_simp) ((cT.out W (hT.ext (hEx7.tr hW)) (rd_at LK.out (E7.tr hW))).mono (fun e9 W9 ⟨v9, h1, h2, A1, c1, h3, h4⟩ => ⟨v9, h1, h2, A1, c1, h3, own_more h4 (Nat.le_trans hs7 hW.size)⟩))
                    refine localsQ_ord (by decide) (fun bs u W hbs hW hno hd => ?_) ?_
                    · refine opLeaves_ev HF rfl fun ev zc zg zf zt => ?_
                      have t64 : ev (.tmp 64) = u 5 := zt 64
                      clear zt
                      have h5 := hd 5 (by kernel_rfl)
                      exact ev_val (v := u 5) (by go_simp) h5
                    refine localsQ_ord (by decide) (fun bs u W hbs hW hno hd => ?_) ?_
                    · refine opLeaves_ev HF rfl fun ev zc zg zf zt => ?_
                      have t58 : ev (.tmp 58) = u 6 := zt 58
                      clear zt
                      have h6 := hd 6 (by kernel_rfl)
                      obtain ⟨A1, c1, e5, o5⟩ := h6
                      exact ev_val (v := .agg #[.string (ofL xi), .slice A1 (nx + 1) c1, .string (ofL Zt)]) (by go_simp) ⟨A1, c1, rfl, o5⟩
                    refine localsQ_ord (by decide) (fun bs u W hbs hW hno hd => ?_) ?_
                    · refine opLeaves_ev HF rfl fun ev zc zg zf zt => ?_
                      have t58 : ev (.tmp 58) = u 6 := zt 58
                      clear zt
                      have h6 := hd 6 (by kernel_rfl)
                      obtain ⟨A1, c1, e5, o5⟩ := h6
                      exact ev_val (v := .int .i64 0) (by go_simp) rfl
                    refine localsQ_ord (by decide) (fun bs u W hbs hW hno hd => ?_) ?_
                    · refine opLeaves_ev HF rfl fun ev zc zg zf zt => ?_
                      clear zt
                      exact ev_new (v := .pointer (some ⟨W.heap.size, 0, none⟩)) (w' := W.alloc (.cells #[.string ⟨#[]⟩, .slice none 0 0, .string ⟨#[]⟩] 24)) (by go_simp) ((Ext.rfl' W).al _) ⟨_, rfl, hW.size, fun _ => Arr.new W _ [.string ⟨#[]⟩, .slice none 0 0, .string ⟨#[]⟩], fun hb => nomatch ((Eq.trans (by kernel_rfl) (hno 0 10 _ hb rfl rfl)) : true = false)⟩
                    refine localsQ_turnT 0 rfl (fun q hq => cs_inj (cs := [10]) (by decide) 0 q _ rfl hq) (fun bs u W hbs hb0 hW hd hcs => ?_) ?_
                    · have h9 := hd 9 (by kernel_rfl)
                      have h7 := hd 7 (by kernel_rfl)
                      have hset : (bs.set 0 true)[0]? = some true := List.getElem?_set_self (by rw [hbs]; decide)
                      obtain ⟨A1, c1, e7, o7⟩ := h7
                      obtain ⟨g9, e9, hg9, hc9, _⟩ := h9
                      have hA9 := hc9 hb0
                      obtain ⟨W', hW'⟩ : ∃ W' : World, W' = ((W.setCell ⟨g9, 0, none⟩ (.string (ofL xi))).setCell ⟨g9, 1, none⟩ (.slice A1 (nx + 1) c1)).setCell ⟨g9, 2, none⟩ (.string (ofL Zt)) := ⟨_, rfl⟩
                      refine turnOk_skip (w' := W') rfl (by rw [hW']; exact run_store_tok rfl (by go_simp) (by go_simp) hA9) ?_ hset ?_
                      · rw [hW']; exact ((hW.st (p := ⟨g9, 0, none⟩) hg9 _).st (p := ⟨g9, 1, none⟩) hg9 _).st (p := ⟨g9, 2, none⟩) hg9 _
                      · intro k h
                        match k, h with
                        | 0, h => exact h
                        | 1, h => exact h
                        | 2, h => exact h
                        | 3, h => exact h
                        | 4, h => exact h
                        | 5, ⟨A1, c1, h1, h2⟩ => exact ⟨A1, c1, h1, by rw [hW']; exact own_set_other (own_set_other (own_set_other h2 hA9 (by decide) _) (hA9.set 0 _) (by decide) _) ((hA9.set 0 _).set 1 _) (by decide) _⟩
                        | 6, ⟨A1, c1, h1, h2⟩ => exact ⟨A1, c1, h1, by rw [hW']; exact own_set_other (own_set_other (own_set_other h2 hA9 (by decide) _) (hA9.set 0 _) (by decide) _) ((hA9.set 0 _).set 1 _) (by decide) _⟩
                        | 7, ⟨A1, c1, h1, h2⟩ => exact ⟨A1, c1, h1, by rw [hW']; exact own_set_other (own_set_other (own_set_other h2 hA9 (by decide) _) (hA9.set 0 _) (by decide) _) ((hA9.set 0 _).set 1 _) (by decide) _⟩
                        | 8, h => exact h
                        | 9, ⟨b, h1, h2, _, _⟩ => rw [e9] at h1; cases h1; exact ⟨g9, e9, h2, fun hb => (by rw [hset] at hb; cases hb), fun _ => ⟨A1, c1, by rw [hW']; exact ((hA9.set 0 _).set 1 _).set 2 _, by rw [hW']; exact own_set_other (own_set_other (own_set_other o7 hA9 (by decide) _) (hA9.set 0 _) (by decide) _) ((hA9.set 0 _).set 1 _) (by decide) _⟩⟩
                        | 10, _ => exact hset
                        | 11, h => exact h
                        | (k + 12), h => exact h
                    refine localsQ_ord (by decide) (fun bs u W hbs hW hno hd => ?_) localsQ_nil
                    · refine opLeaves_ev HF rfl fun ev zc zg zf zt => ?_
                      have t66 : ev (.tmp 66) = u 8 := zt 66
                      clear zt
                      have h8 : u 8 = _ := hd 8 (by kernel_rfl)
                      exact ev_val (v := .int .i64 0) (by go_simp) rfl
                  · intro u8 W8 E8 hV
                    obtain ⟨g11, h9b, hg11, _, hr11⟩ := hV 9 (by decide)
                    obtain ⟨A2, c2, A8, O8⟩ := hr11 rfl
                    have h11b : u8 11 = _ := hV 11 (by decide)
                    clear hV hr11
                    go_simp
                    go_upto_region 9 with fail
                    have O7b := own_ext O7 (fun j _ hj => E8.block j hj)
                    have A7b := A7.ext E8 A7.lt
                    obtain ⟨gz, cz, e2⟩ := ownsRow_succ O8
                    obtain ⟨rfl, rfl⟩ : A2 = some ⟨gz, 0, none⟩ ∧ cz = c2 := by cases e2; exact ⟨rfl, rfl⟩
                    obtain ⟨gy, cy, e1⟩ := ownsRow_succ O7b
                    obtain ⟨rfl, rfl⟩ : A1 = some ⟨gy, 0, none⟩ ∧ cy = c1 := by cases e1; exact ⟨rfl, rfl⟩
                    have hzc := Kp.mk (show ∀ W, Ext W8 W → W.cell? ⟨gz, nx * 2 + 1, none⟩ = some (.string (ofL S)) from fun W hW => ((bcell hW).1 gz _ (O8.lt gz rfl).2).trans ((O8.cellAt (nx * 2 + 1) (by omega)).trans hlast.out))
                    have LY8 := own_links (l := xl ++ [(s, [])]) O7b (by rw [List.length_append, HNX.out]; rfl)
                    have LZ8 := own_links (l := xl ++ [(s, S)]) O8 (by rw [List.length_append, HNX.out]; rfl)
                    have hgz : g < gz := by have := (O8.lt gz rfl).1; omega
                    have hgy : g < gy := by have := (O7b.lt gy rfl).1; omega
                    have F8 := hEx7.tr E8
                    have cu8 := cu7.ext E8 hgl7
                    have hgl8 := cu8.lt
                    have E78 := E7.tr E8
                    have w0 : ((nx : Int) + 1 == 0) = false := by simp; omega
                    have w1 : (nx : Int) + 1 - 1 = nx := by omega
                    have w2 : IntKind.i64.wrap (nx : Int) = nx := IntWalk.i64_in _ (by omega)
                    have HW0 := Kp.mk w0; have HW1 := Kp.mk w1; have HW2 := Kp.mk w2
                    have HKS := Kp.mk dS
                    clear O7 O8 O7b A7 w0 w1 w2 E7 E8 cu7 hgl7 hEx7 cA cT dS
                    refine wp_region_stageE [] (fun bs W => Ext W8 W) (fun bs i v W => match i with
                      | 0 => v = .pointer (some ⟨g11, 1, none⟩)
                      | 1 => v = .slice (some ⟨gz, 0, none⟩) (nx + 1) cz
                      | 2 => v = .int .i64 (nx + 1)
                      | 3 => v = .bool false
                      | 4 => v = .bool false
                      | 5 => v = .int .i64 0
                      | 6 => v = .bool false
                      | 7 => v = .bool false
                      | 8 => v = .bool false
                      | 9 => v = .int .i64 0
                      | 10 => v = .bool false
                      | 11 => v = .bool false
                      | 12 => v = .bool false
                      | 13 => v = .pointer (some ⟨g9, 2, none⟩)
                      | 14 => v = .string (ofL Yt)
                      | 15 => v = .string (ofL k)
                      | 16 => v = .agg #[.string (ofL xi), .slice (some ⟨gy, 0, none⟩) (nx + 1) cy, .string (ofL Yt)]
                      | 17 => v = .string (ofL Yt)
                      | 18 => v = .bool false
                      | 19 => v = .bool false
                      | 20 => v = .bool false
                      | 21 => v = .pointer (some ⟨g11, 2, none⟩)
                      | 22 => v = .string (ofL Zt)
                      | 23 => v = .string (ofL k)
                      | 24 => v = .agg #[.string (ofL xi), .slice (some ⟨gz, 0, none⟩) (nx + 1) cz, .string (ofL Zt)]
                      | 25 => v = .string (ofL Zt)
                      | 26 => v = .bool false
                      | 27 => v = .bool false
                      | 28 => v = .bool false
                      | 29 => v = .pointer (some ⟨g11, 1, none⟩)
                      | 30 => v = .slice (some ⟨gz, 0, none⟩) (nx + 1) cz
                      | 31 => v = .pointer (some ⟨g11, 1, none⟩)
                      | 32 => v = .slice (some ⟨gz, 0, none⟩) (nx + 1) cz
                      | 33 => v = .int .i64 (nx + 1)
                      | 34 => v = .int .i64 nx
                      | 35 => v = .pointer (some ⟨gz, nx * 2, none⟩)
                      | 36 => v = .pointer (some ⟨gz, nx * 2 + 1, none⟩)
                      | 37 => v = .string (ofL S)
                      | 38 => v = .bool false
                      | 39 => v = .bool false
                      | _ => True) (cs_inj (by decide)) (by decide) (by kernel_rfl) (by kernel_rfl) (by kernel_rfl) (by kernel_rfl) ((Ext.rfl' W8).dr) (fun bs W1 W2 h e => h.tr e) ?_ ?_ ?_
                    · intro bs i v W1 W2 e1 e2 h
                      match i, h with
                      | 0, h => exact h
                      | 1, h => exact h
                      | 2, h => exact h
                      | 3, h => exact h
                      | 4, h => exact h
                      | 5, h => exact h
                      | 6, h => exact h
                      | 7, h => exact h
                      | 8, h => exact h
                      | 9, h => exact h
                      | 10, h => exact h
                      | 11, h => exact h
                      | 12, h => exact h
                      | 13, h => exact h
                      | 14, h => exact h
                      | 15, h => exact h
                      | 16, h => exact h
                      | 17, h => exact h
                      | 18, h => exact h
                      | 19, h => exact h
                      | 20, h => exact h
                      | 21, h => exact h
                      | 22, h => exact h
                      | 23, h => exact h
                      | 24, h => exact h
                      | 25, h => exact h
                      | 26, h => exact h
                      | 27, h => exact h
                      | 28, h => exact h
                      | 29, h => exact h
                      | 30, h => exact h
                      | 31, h => exact h
                      | 32, h => exact h
                      | 33, h => exact h
                      | 34, h => exact h
                      | 35, h => exact h
                      | 36, h => exact h
                      | 37, h => exact h
                      | 38, h => exact h
                      | 39, h => exact h
                      | (i + 40), h => exact h
                    · intro HF
                      refine localsQ_ord (by decide) (fun bs u W hbs hW hno hd => ?_) ?_
                      · refine opLeaves_ev HF rfl fun ev zc zg zf zt => ?_
                        have t11 : ev (.tmp 11) = .pointer (some ⟨g11, 0, none⟩) := zt 11
                        clear zt
                        exact ev_val (v := .pointer (some ⟨g11, 1, none⟩)) (by go_simp) rfl
                      refine localsQ_ord (by decide) (fun bs u W hbs hW hno hd => ?_) ?_
                      · refine opLeaves_ev HF rfl fun ev zc zg zf zt => ?_
                        have t67 : ev (.tmp 67) = u 0 := zt 67
                        clear zt
                        have h0 : u 0 = _ := hd 0 (by kernel_rfl)
                        have r1 := (A8.ext hW A8.lt).cell 1
                        simp only [List.getElem?_cons_zero, List.getElem?_cons_succ] at r1
                        exact ev_val (v := .slice (some ⟨gz, 0, none⟩) (nx + 1) cz) (by go_simp) rfl
                      refine localsQ_ord (by decide) (fun bs u W hbs hW hno hd => ?_) ?_
                      · refine opLeaves_ev HF rfl fun ev zc zg zf zt => ?_
                        have t68 : ev (.tmp 68) = u 1 := zt 68
                        clear zt
                        have h1 : u 1 = _ := hd 1 (by kernel_rfl)
                        exact ev_val (v := .int .i64 (nx + 1)) (by go_simp) rfl
                      refine localsQ_ord (by decide) (fun bs u W hbs hW hno hd => ?_) ?_
                      · refine opLeaves_ev HF rfl fun ev zc zg zf zt => ?_
                        have t69 : ev (.tmp 69) = u 2 := zt 69
                        clear zt
                        have h2 : u 2 = _ := hd 2 (by kernel_rfl)
                        have w0 := HW0.out
                        exact ev_val (v := .bool false) (by go_simp) rfl
                      refine localsQ_ord (by decide) (fun bs u W hbs hW hno hd => ?_) ?_
                      · refine opLeaves_ev HF rfl fun ev zc zg zf zt => ?_
                        have t70 : ev (.tmp 70) = u 3 := zt 70
                        clear zt
                        have h3 : u 3 = _ := hd 3 (by kernel_rfl)
                        exact ev_val (v := .bool false) (by go_simp) rfl
                      refine localsQ_ord (by decide) (fun bs u W hbs hW hno hd => ?_) ?_
                      · have h4 : u 4 = _ := hd 4 (by kernel_rfl)
                        exact leaves_val (by simp [Region.wanted, yielded, go_sem, h4]) (v := .int .i64 0) (by go_simp) rfl
                      refine localsQ_ord (by decide) (fun bs u W hbs hW hno hd => ?_) ?_
                      · have h4 : u 4 = _ := hd 4 (by kernel_rfl)
                        have h5 : u 5 = _ := hd 5 (by kernel_rfl)
                        exact leaves_val (by simp [Region.wanted, yielded, go_sem, h4]) (v := .bool false) (by go_simp) rfl
                      refine localsQ_ord (by decide) (fun bs u W hbs hW hno hd => ?_) ?_
                      · refine opLeaves_ev HF rfl fun ev zc zg zf zt => ?_
                        have t71 : ev (.tmp 71) = u 4 := zt 71
                        have t73 : ev (.tmp 73) = u 6 := zt 73
                        clear zt
                        have h4 : u 4 = _ := hd 4 (by kernel_rfl)
                        have h6 : u 6 = _ := hd 6 (by kernel_rfl)
                        exact ev_val (v := .bool false) (by go_simp) rfl
                      refine localsQ_ord (by decide) (fun bs u W hbs hW hno hd => ?_) ?_
                      · refine opLeaves_ev HF rfl fun ev zc zg zf zt => ?_
                        have t74 : ev (.tmp 74) = u 7 := zt 74
                        clear zt
                        have h7 : u 7 = _ := hd 7 (by kernel_rfl)
                        exact ev_val (v := .bool false) (by go_simp) rfl
                      refine localsQ_ord (by decide) (fun bs u W hbs hW hno hd => ?_) ?_
                      · have h8 : u 8 = _ := hd 8 (by kernel_rfl)
                        exact leaves_val (by simp [Region.wanted, yielded, go_sem, h8]) (v := .int .i64 0) (by go_simp) rfl
                      refine localsQ_ord (by decide) (fun bs u W hbs hW hno hd => ?_) ?_
                      · have h8 : u 8 = _ := hd 8 (by kernel_rfl)
                        have h9 : u 9 = _ := hd 9 (by kernel_rfl)
                        exact leaves_val (by simp [Region.wanted, yielded, go_sem, h8]) (v := .bool false) (by go_simp) rfl
                      refine localsQ_ord (by decide) (fun bs u W hbs hW hno hd => ?_) ?_
                      · refine opLeaves_ev HF rfl fun ev zc zg zf zt => ?_
                        have t75 : ev (.tmp 75) = u 8 := zt 75
                        have t77 : ev (.tmp 77) = u 10 := zt 77
                        clear zt
                        have h8 : u 8 = _ := hd 8 (by kernel_rfl)
                        have h10 : u 10 = _ := hd 10 (by kernel_rfl)
                        exact ev_val (v := .bool false) (by go_simp) rfl
                      refine localsQ_ord (by decide) (fun bs u W hbs hW hno hd => ?_) ?_
                      · refine opLeaves_ev HF rfl fun ev zc zg zf zt => ?_
                        have t78 : ev (.tmp 78) = u 11 := zt 78
                        clear zt
                        have h11 : u 11 = _ := hd 11 (by kernel_rfl)
                        exact ev_val (v := .bool false) (by go_simp) rfl
                      refine localsQ_ord (by decide) (fun bs u W hbs hW hno hd => ?_) ?_
                      · have h12 : u 12 = _ := hd 12 (by kernel_rfl)
                        exact leaves_val (by simp [Region.wanted, yielded, go_sem, h12]) (v := .pointer (some ⟨g9, 2, none⟩)) (by go_simp) rfl
                      refine localsQ_ord (by decide) (fun bs u W hbs hW hno hd => ?_) ?_
                      · have h12 : u 12 = _ := hd 12 (by kernel_rfl)
                        have h13 : u 13 = _ := hd 13 (by kernel_rfl)
                        have r1 := (A7b.ext hW A7b.lt).cell 2
                        simp only [List.getElem?_cons_zero, List.getElem?_cons_succ] at r1
                        exact leaves_val (by simp [Region.wanted, yielded, go_sem, h12]) (v := .string (ofL Yt)) (by go_simp) rfl
                      refine localsQ_ord (by decide) (fun bs u W hbs hW hno hd => ?_) ?_
                      · have h12 : u 12 = _ := hd 12 (by kernel_rfl)
                        exact leaves_val (by simp [Region.wanted, yielded, go_sem, h12]) (v := .string (ofL k)) (by go_simp) rfl
                      refine localsQ_ord (by decide) (fun bs u W hbs hW hno hd => ?_) ?_
                      · have h12 : u 12 = _ := hd 12 (by kernel_rfl)
                        have r0 := (A7b.ext hW A7b.lt).cell 0; have r1 := (A7b.ext hW A7b.lt).cell 1; have r2 := (A7b.ext hW A7b.lt).cell 2
                        simp only [List.getElem?_cons_zero, List.getElem?_cons_succ] at r0 r1 r2
                        exact leaves_val (by simp [Region.wanted, yielded, go_sem, h12]) (v := .agg #[.string (ofL xi), .slice (some ⟨gy, 0, none⟩) (nx + 1) cy, .string (ofL Yt)]) (by go_simp) rfl
                      refine localsQ_ord (by decide) (fun bs u W hbs hW hno hd => ?_) ?_
                      · have h12 : u 12 = _ := hd 12 (by kernel_rfl)
                        have h15 : u 15 = _ := hd 15 (by kernel_rfl)
                        have h16 : u 16 = _ := hd 16 (by kernel_rfl)
                        exact leaves_call (by simp [Region.wanted, yielded, go_sem, h12]) (f := 30) (args := #[.string (ofL k), .agg #[.string (ofL xi), .slice (some ⟨gy, 0, none⟩) (nx + 1) cy, .string (ofL Yt)]]) (by go_simp) ((cLY.out _ _ W (hT.ext (F8.tr hW)) (rd_at LY8 hW)).mono (by rintro e9 W9 ⟨rfl, h9⟩; exact ⟨_, rfl, h9, rfl⟩))
                      refine localsQ_ord (by decide) (fun bs u W hbs hW hno hd => ?_) ?_
                      · have h12 : u 12 = _ := hd 12 (by kernel_rfl)
                        have h14 : u 14 = _ := hd 14 (by kernel_rfl)
                        have h17 : u 17 = _ := hd 17 (by kernel_rfl)
                        exact leaves_val (by simp [Region.wanted, yielded, go_sem, h12]) (v := .bool false) (by go_simp) rfl
                      refine localsQ_ord (by decide) (fun bs u W hbs hW hno hd => ?_) ?_
                      · refine opLeaves_ev HF rfl fun ev zc zg zf zt => ?_
                        have t79 : ev (.tmp 79) = u 12 := zt 79
                        have t85 : ev (.tmp 85) = u 18 := zt 85
                        clear zt
                        have h12 : u 12 = _ := hd 12 (by kernel_rfl)
                        have h18 : u 18 = _ := hd 18 (by kernel_rfl)
                        exact ev_val (v := .bool false) (by go_simp) rfl
                      refine localsQ_ord (by decide) (fun bs u W hbs hW hno hd => ?_) ?_
                      · refine opLeaves_ev HF rfl fun ev zc zg zf zt => ?_
                        have t86 : ev (.tmp 86) = u 19 := zt 86
                        clear zt
                        have h19 : u 19 = _ := hd 19 (by kernel_rfl)
                        exact ev_val (v := .bool false) (by go_simp) rfl
                      refine localsQ_ord (by decide) (fun bs u W hbs hW hno hd => ?_) ?_
                      · have h20 : u 20 = _ := hd 20 (by kernel_rfl)
                        exact leaves_val (by simp [Region.wanted, yielded, go_sem, h20]) (v := .pointer (some ⟨g11, 2, none⟩)) (by go_simp) rfl
                      refine localsQ_ord (by decide) (fun bs u W hbs hW hno hd => ?_) ?_
                      · have h20 : u 20 = _ := hd 20 (by kernel_rfl)
                        have h21 : u 21 = _ := hd 21 (by kernel_rfl)
                        have r1 := (A8.ext hW A8.lt).cell 2
                        simp only [List.getElem?_cons_zero, List.getElem?_cons_succ] at r1
                        exact leaves_val (by simp [Region.wanted, yielded, go_sem, h20]) (v := .string (ofL Zt)) (by go_simp) rfl
                      refine localsQ_ord (by decide) (fun bs u W hbs hW hno hd => ?_) ?_
                      · have h20 : u 20 = _ := hd 20 (by kernel_rfl)
                        exact leaves_val (by simp [Region.wanted, yielded, go_sem, h20]) (v := .string (ofL k)) (by go_simp) rfl
                      refine localsQ_ord (by decide) (fun bs u W hbs hW hno hd => ?_) ?_
                      · have h20 : u 20 = _ := hd 20 (by kernel_rfl)
                        have r0 := (A8.ext hW A8.lt).cell 0; have r1 := (A8.ext hW A8.lt).cell 1; have r2 := (A8.ext hW A8.lt).cell 2
                        simp only [List.getElem?_cons_zero, List.getElem?_cons_succ] at r0 r1 r2
                        exact leaves_val (by simp [Region.wanted, yielded, go_sem, h20]) (v := .agg #[.string (ofL xi), .slice (some ⟨gz, 0, none⟩) (nx + 1) cz, .string (ofL Zt)]) (by go_simp) rfl
                      refine localsQ_ord (by decide) (fun bs u W hbs hW hno hd => ?_) ?_
                      · have h20 : u 20 = _ := hd 20 (by kernel_rfl)
                        have h23 : u 23 = _ := hd 23 (by kernel_rfl)
                        have h24 : u 24 = _ := hd 24 (by kernel_rfl)
                        exact leaves_call (by simp [Region.wanted, yielded, go_sem, h20]) (f := 30) (args := #[.string (ofL k), .agg #[.string (ofL xi), .slice (some ⟨gz, 0, none⟩) (nx + 1) cz, .string (ofL Zt)]]) (by go_simp) ((cLZ.out _ _ W (hT.ext (F8.tr hW)) (rd_at LZ8 hW)).mono (by rintro e9 W9 ⟨rfl, h9⟩; exact ⟨_, rfl, h9, rfl⟩))
                      refine localsQ_ord (by decide) (fun bs u W hbs hW hno hd => ?_) ?_
                      · have h20 : u 20 = _ := hd 20 (by kernel_rfl)
                        have h22 : u 22 = _ := hd 22 (by kernel_rfl)
                        have h25 : u 25 = _ := hd 25 (by kernel_rfl)
                        exact leaves_val (by simp [Region.wanted, yielded, go_sem, h20]) (v := .bool false) (by go_simp) rfl
                      refine localsQ_ord (by decide) (fun bs u W hbs hW hno hd => ?_) ?_
                      · refine opLeaves_ev HF rfl fun ev zc zg zf zt => ?_
                        have t87 : ev (.tmp 87) = u 20 := zt 87
                        have t93 : ev (.tmp 93) = u 26 := zt 93
                        clear zt
                        have h20 : u 20 = _ := hd 20 (by kernel_rfl)
                        have h26 : u 26 = _ := hd 26 (by kernel_rfl)
                        exact ev_val (v := .bool false) (by go_simp) rfl
                      refine localsQ_ord (by decide) (fun bs u W hbs hW hno hd => ?_) ?_
                      · refine opLeaves_ev HF rfl fun ev zc zg zf zt => ?_
                        have t94 : ev (.tmp 94) = u 27 := zt 94
                        clear zt
                        have h27 : u 27 = _ := hd 27 (by kernel_rfl)
                        exact ev_val (v := .bool false) (by go_simp) rfl
                      refine localsQ_ord (by decide) (fun bs u W hbs hW hno hd => ?_) ?_
                      · have h28 : u 28 = _ := hd 28 (by kernel_rfl)
                        exact leaves_val (by simp [Region.wanted, yielded, go_sem, h28]) (v := .pointer (some ⟨g11, 1, none⟩)) (by go_simp) rfl
                      refine localsQ_ord (by decide) (fun bs u W hbs hW hno hd => ?_) ?_
                      · have h28 : u 28 = _ := hd 28 (by kernel_rfl)
                        have h29 : u 29 = _ := hd 29 (by kernel_rfl)
                        have r1 := (A8.ext hW A8.lt).cell 1
                        simp only [List.getElem?_cons_zero, List.getElem?_cons_succ] at r1
                        exact leaves_val (by simp [Region.wanted, yielded, go_sem, h28]) (v := .slice (some ⟨gz, 0, none⟩) (nx + 1) cz) (by go_simp) rfl
                      refine localsQ_ord (by decide) (fun bs u W hbs hW hno hd => ?_) ?_
                      · have h28 : u 28 = _ := hd 28 (by kernel_rfl)
                        exact leaves_val (by simp [Region.wanted, yielded, go_sem, h28]) (v := .pointer (some ⟨g11, 1, none⟩)) (by go_simp) rfl
                      refine localsQ_ord (by decide) (fun bs u W hbs hW hno hd => ?_) ?_
                      · have h28 : u 28 = _ := hd 28 (by kernel_rfl)
                        have h31 : u 31 = _ := hd 31 (by kernel_rfl)
                        have r1 := (A8.ext hW A8.lt).cell 1
                        simp only [List.getElem?_cons_zero, List.getElem?_cons_succ] at r1
                        exact leaves_val (by simp [Region.wanted, yielded, go_sem, h28]) (v := .slice (some ⟨gz, 0, none⟩) (nx + 1) cz) (by go_simp) rfl
                      refine localsQ_ord (by decide) (fun bs u W hbs hW hno hd => ?_) ?_
                      · have h28 : u 28 = _ := hd 28 (by kernel_rfl)
                        have h32 : u 32 = _ := hd 32 (by kernel_rfl)
                        exact leaves_val (by simp [Region.wanted, yielded, go_sem, h28]) (v := .int .i64 (nx + 1)) (by go_simp) rfl
                      refine localsQ_ord (by decide) (fun bs u W hbs hW hno hd => ?_) ?_
                      · have h28 : u 28 = _ := hd 28 (by kernel_rfl)
                        have h33 : u 33 = _ := hd 33 (by kernel_rfl)
                        have w1 := HW1.out
                        have w2 := HW2.out
                        exact leaves_val (by simp [Region.wanted, yielded, go_sem, h28]) (v := .int .i64 nx) (by go_simp) rfl
                      refine localsQ_ord (by decide) (fun bs u W hbs hW hno hd => ?_) ?_
                      · have h28 : u 28 = _ := hd 28 (by kernel_rfl)
                        have h30 : u 30 = _ := hd 30 (by kernel_rfl)
                        have h34 : u 34 = _ := hd 34 (by kernel_rfl)
                        exact leaves_val (by simp [Region.wanted, yielded, go_sem, h28]) (v := .pointer (some ⟨gz, nx * 2, none⟩)) (by go_simp; omega) rfl
                      refine localsQ_ord (by decide) (fun bs u W hbs hW hno hd => ?_) ?_
                      · have h28 : u 28 = _ := hd 28 (by kernel_rfl)
                        have h35 : u 35 = _ := hd 35 (by kernel_rfl)
                        exact leaves_val (by simp [Region.wanted, yielded, go_sem, h28]) (v := .pointer (some ⟨gz, nx * 2 + 1, none⟩)) (by go_simp) rfl
                      refine localsQ_ord (by decide) (fun bs u W hbs hW hno hd => ?_) ?_
                      · have h28 : u 28 = _ := hd 28 (by kernel_rfl)
                        have h36 : u 36 = _ := hd 36 (by kernel_rfl)
                        have r0 := hzc.out W hW
                        exact leaves_val (by simp [Region.wanted, yielded, go_sem, h28]) (v := .string (ofL S)) (by go_simp) rfl
                      refine localsQ_ord (by decide) (fun bs u W hbs hW hno hd => ?_) ?_
                      · have h28 : u 28 = _ := hd 28 (by kernel_rfl)
                        have h37 : u 37 = _ := hd 37 (by kernel_rfl)
                        have dS := HKS.out
                        exact leaves_val (by simp [Region.wanted, yielded, go_sem, h28]) (v := .bool false) (by go_simp) rfl
                      refine localsQ_ord (by decide) (fun bs u W hbs hW hno hd => ?_) localsQ_nil
                      · refine opLeaves_ev HF rfl fun ev zc zg zf zt => ?_
                        have t95 : ev (.tmp 95) = u 28 := zt 95
                        have t105 : ev (.tmp 105) = u 38 := zt 105
                        clear zt
                        have h28 : u 28 = _ := hd 28 (by kernel_rfl)
                        have h38 : u 38 = _ := hd 38 (by kernel_rfl)
                        exact ev_val (v := .bool false) (by go_simp) rfl
                    · intro u9 W9 E9 hV
                      have h39 : u9 39 = .bool false := hV 39 (by decide)
                      clear hV
                      go_simp
                      go_upto_region 11 with fail
                      have F9 := F8.tr E9
                      have cu9 := cu8.ext E9 hgl8
                      have A9z := A8.ext E9 A8.lt
                      have hgl9 := cu9.lt
                      refine wp_region_stageE [] (fun bs W => Ext W9 W) (fun bs i v W => match i with
                        | 0 => v = .pointer (some ⟨g, 2, none⟩)
                        | 1 => v = .string (ofL xt)
                        | 2 => v = .string (ofL K)
                        | 3 => v = .pointer (some ⟨g11, 1, none⟩)
                        | 4 => v = .slice (some ⟨gz, 0, none⟩) (nx + 1) cz
                        | 5 => v = .pointer (some ⟨g11, 1, none⟩)
                        | 6 => v = .slice (some ⟨gz, 0, none⟩) (nx + 1) cz
                        | 7 => v = .int .i64 (nx + 1)
                        | 8 => v = .int .i64 nx
                        | 9 => v = .pointer (some ⟨gz, nx * 2, none⟩)
                        | 10 => v = .pointer (some ⟨gz, nx * 2 + 1, none⟩)
                        | 11 => v = .string (ofL S)
                        | 12 => v = .tuple #[.string ⟨#[116, 104, 101, 32, 107, 101, 121]⟩, .int .i64 0]
                        | 13 => v = .tuple #[.string ⟨#[116, 104, 101, 32, 107, 101, 121]⟩, .int .i64 0]
                        | 14 => v = .string ⟨#[116, 104, 101, 32, 107, 101, 121]⟩
                        | 15 => v = .int .i64 0
                        | 16 => v = .string ⟨#[116, 104, 101, 32, 107, 101, 121]⟩
                        | 17 => v = .int .i64 0
                        | _ => True) (cs_inj (by decide)) (by decide) (by kernel_rfl) (by kernel_rfl) (by kernel_rfl) (by kernel_rfl) ((Ext.rfl' W9).dr) (fun bs W1 W2 h e => h.tr e) ?_ ?_ ?_
                      · intro bs i v W1 W2 e1 e2 h
                        match i, h with
                        | 0, h => exact h
                        | 1, h => exact h
                        | 2, h => exact h
                        | 3, h => exact h
                        | 4, h => exact h
                        | 5, h => exact h
                        | 6, h => exact h
                        | 7, h => exact h
                        | 8, h => exact h
                        | 9, h => exact h
                        | 10, h => exact h
                        | 11, h => exact h
                        | 12, h => exact h
                        | 13, h => exact h
                        | 14, h => exact h
                        | 15, h => exact h
                        | 16, h => exact h
                        | 17, h => exact h
                        | (i + 18), h => exact h
                      · intro HF
                        refine localsQ_ord (by decide) (fun bs u W hbs hW hno hd => ?_) ?_
                        · refine opLeaves_ev HF rfl fun ev zc zg zf zt => ?_
                          have t7 : ev (.tmp 7) = .pointer (some ⟨g, 0, none⟩) := zt 7
                          clear zt
                          exact ev_val (v := .pointer (some ⟨g, 2, none⟩)) (by go_simp) rfl
                        refine localsQ_ord (by decide) (fun bs u W hbs hW hno hd => ?_) ?_
                        · refine opLeaves_ev HF rfl fun ev zc zg zf zt => ?_
                          have t108 : ev (.tmp 108) = u 0 := zt 108
                          clear zt
                          have h0 : u 0 = _ := hd 0 (by kernel_rfl)
                          have r1 := (cu9.ext hW hgl9).cell 2
                          simp only [List.getElem?_cons_zero, List.getElem?_cons_succ] at r1
                          exact ev_val (v := .string (ofL xt)) (by go_simp) rfl
                        refine localsQ_ord (by decide) (fun bs u W hbs hW hno hd => ?_) ?_
                        · refine opLeaves_ev HF rfl fun ev zc zg zf zt => ?_
                          have t109 : ev (.tmp 109) = u 1 := zt 109
                          clear zt
                          have h1 : u 1 = _ := hd 1 (by kernel_rfl)
                          exact ev_call (f := 31) (args := #[.string (ofL xt)]) (by go_simp) ((cK.out W (hT.ext (F9.tr hW))).mono (by rintro e9 W9 ⟨rfl, h9⟩; exact ⟨_, rfl, h9, rfl⟩))
                        refine localsQ_ord (by decide) (fun bs u W hbs hW hno hd => ?_) ?_
                        · refine opLeaves_ev HF rfl fun ev zc zg zf zt => ?_
                          have t11 : ev (.tmp 11) = .pointer (some ⟨g11, 0, none⟩) := zt 11
                          clear zt
                          exact ev_val (v := .pointer (some ⟨g11, 1, none⟩)) (by go_simp) rfl
                        refine localsQ_ord (by decide) (fun bs u W hbs hW hno hd => ?_) ?_
                        · refine opLeaves_ev HF rfl fun ev zc zg zf zt => ?_
                          have t111 : ev (.tmp 111) = u 3 := zt 111
                          clear zt
                          have h3 : u 3 = _ := hd 3 (by kernel_rfl)
                          have r1 := (A9z.ext hW A9z.lt).cell 1
                          simp only [List.getElem?_cons_zero, List.getElem?_cons_succ] at r1
                          exact ev_val (v := .slice (some ⟨gz, 0, none⟩) (nx + 1) cz) (by go_simp) rfl
                        refine localsQ_ord (by decide) (fun bs u W hbs hW hno hd => ?_) ?_
                        · refine opLeaves_ev HF rfl fun ev zc zg zf zt => ?_
                          have t11 : ev (.tmp 11) = .pointer (some ⟨g11, 0, none⟩) := zt 11
                          clear zt
                          exact ev_val (v := .pointer (some ⟨g11, 1, none⟩)) (by go_simp) rfl
                        refine localsQ_ord (by decide) (fun bs u W hbs hW hno hd => ?_) ?_
                        · refine opLeaves_ev HF rfl fun ev zc zg zf zt => ?_
                          have t113 : ev (.tmp 113) = u 5 := zt 113
                          clear zt
                          have h5 : u 5 = _ := hd 5 (by kernel_rfl)
                          have r1 := (A9z.ext hW A9z.lt).cell 1
                          simp only [List.getElem?_cons_zero, List.getElem?_cons_succ] at r1
                          exact ev_val (v := .slice (some ⟨gz, 0, none⟩) (nx + 1) cz) (by go_simp) rfl
                        refine localsQ_ord (by decide) (fun bs u W hbs hW hno hd => ?_) ?_
                        · refine opLeaves_ev HF rfl fun ev zc zg zf zt => ?_
                          have t114 : ev (.tmp 114) = u 6 := zt 114
                          clear zt
                          have h6 : u 6 = _ := hd 6 (by kernel_rfl)
                          exact ev_val (v := .int .i64 (nx + 1)) (by go_simp) rfl
                        refine localsQ_ord (by decide) (fun bs u W hbs hW hno hd => ?_) ?_
                        · refine opLeaves_ev HF rfl fun ev zc zg zf zt => ?_
                          have t115 : ev (.tmp 115) = u 7 := zt 115
                          clear zt
                          have h7 : u 7 = _ := hd 7 (by kernel_rfl)
                          have w1 := HW1.out
                          have w2 := HW2.out
                          exact ev_val (v := .int .i64 nx) (by go_simp) rfl
                        refine localsQ_ord (by decide) (fun bs u W hbs hW hno hd => ?_) ?_
                        · refine opLeaves_ev HF rfl fun ev zc zg zf zt => ?_
                          have t112 : ev (.tmp 112) = u 4 := zt 112
                          have t116 : ev (.tmp 116) = u 8 := zt 116
                          clear zt
                          have h4 : u 4 = _ := hd 4 (by kernel_rfl)
                          have h8 : u 8 = _ := hd 8 (by kernel_rfl)
                          exact ev_val (v := .pointer (some ⟨gz, nx * 2, none⟩)) (by go_simp; omega) rfl
                        refine localsQ_ord (by decide) (fun bs u W hbs hW hno hd => ?_) ?_
                        · refine opLeaves_ev HF rfl fun ev zc zg zf zt => ?_
                          have t117 : ev (.tmp 117) = u 9 := zt 117
                          clear zt
                          have h9 : u 9 = _ := hd 9 (by kernel_rfl)
                          exact ev_val (v := .pointer (some ⟨gz, nx * 2 + 1, none⟩)) (by go_simp) rfl
                        refine localsQ_ord (by decide) (fun bs u W hbs hW hno hd => ?_) ?_
                        · refine opLeaves_ev HF rfl fun ev zc zg zf zt => ?_
                          have t118 : ev (.tmp 118) = u 10 := zt 118
                          clear zt
                          have h10 : u 10 = _ := hd 10 (by kernel_rfl)
                          have r0 := hzc.out W (E9.tr hW)
                          exact ev_val (v := .string (ofL S)) (by go_simp) rfl
                        refine localsQ_ord (by decide) (fun bs u W hbs hW hno hd => ?_) ?_
                        · refine opLeaves_ev HF rfl fun ev zc zg zf zt => ?_
                          have t110 : ev (.tmp 110) = u 2 := zt 110
                          have t119 : ev (.tmp 119) = u 11 := zt 119
                          clear zt
                          have h2 : u 2 = _ := hd 2 (by kernel_rfl)
                          have h11 : u 11 = _ := hd 11 (by kernel_rfl)
                          exact ev_call (f := 21) (args := #[.string (ofL K), .string (ofL S)]) (by go_simp) ((cO.out W (hT.ext (F9.tr hW))).mono (by rintro e9 W9 ⟨rfl, h9⟩; exact ⟨_, rfl, h9, rfl⟩))
                        refine localsQ_ord (by decide) (fun bs u W hbs hW hno hd => ?_) ?_
                        · refine opLeaves_ev HF rfl fun ev zc zg zf zt => ?_
                          have t120 : ev (.tmp 120) = u 12 := zt 120
                          clear zt
                          have h12 : u 12 = _ := hd 12 (by kernel_rfl)
                          exact ev_val (v := .tuple #[.string ⟨#[116, 104, 101, 32, 107, 101, 121]⟩, .int .i64 0]) (by go_simp) rfl
                        refine localsQ_ord (by decide) (fun bs u W hbs hW hno hd => ?_) ?_
                        · refine opLeaves_ev HF rfl fun ev zc zg zf zt => ?_
                          have t107 : ev (.tmp 107) = u 13 := zt 107
                          clear zt
                          have h13 : u 13 = _ := hd 13 (by kernel_rfl)
                          exact ev_val (v := .string ⟨#[116, 104, 101, 32, 107, 101, 121]⟩) (by go_simp) rfl
                        refine localsQ_ord (by decide) (fun bs u W hbs hW hno hd => ?_) ?_
                        · refine opLeaves_ev HF rfl fun ev zc zg zf zt => ?_
                          have t107 : ev (.tmp 107) = u 13 := zt 107
                          clear zt
                          have h13 : u 13 = _ := hd 13 (by kernel_rfl)
                          exact ev_val (v := .int .i64 0) (by go_simp) rfl
                        refine localsQ_ord (by decide) (fun bs u W hbs hW hno hd => ?_) ?_
                        · refine opLeaves_ev HF rfl fun ev zc zg zf zt => ?_
                          have t121 : ev (.tmp 121) = u 14 := zt 121
                          clear zt
                          have h14 : u 14 = _ := hd 14 (by kernel_rfl)
                          exact ev_val (v := .string ⟨#[116, 104, 101, 32, 107, 101, 121]⟩) (by go_simp) rfl
                        refine localsQ_ord (by decide) (fun bs u W hbs hW hno hd => ?_) localsQ_nil
                        · refine opLeaves_ev HF rfl fun ev zc zg zf zt => ?_
                          have t122 : ev (.tmp 122) = u 15 := zt 122
                          clear zt
                          have h15 : u 15 = _ := hd 15 (by kernel_rfl)
                          exact ev_val (v := .int .i64 0) (by go_simp) rfl
                      · intro u11 W11 E11 hV
                        have h16 : u11 16 = _ := hV 16 (by decide)
                        have h17 : u11 17 = _ := hV 17 (by decide)
                        clear hV
                        have E811 := E9.tr E11
                        have F11 := F8.tr E811
                        have cuB := cu8.ext E811 hgl8
                        have AY := A7b.ext E811 A7b.lt
                        have AZ := A8.ext E811 A8.lt
                        have LYb := rd_at LY8 E811
                        have LZb := rd_at LZ8 E811
                        have SB := Sup.out W11 (E78.tr E811)
                        have r0 := AZ.cell 0; have r1 := AZ.cell 1; have r2 := AZ.cell 2
                        have q0 := cuB.cell 0; have q1 := cuB.cell 1; have q2 := cuB.cell 2
                        have z0 := cuB.frozen 0; have z1 := cuB.frozen 1; have z2 := cuB.frozen 2
                        simp only [List.getElem?_cons_zero, List.getElem?_cons_succ] at r0 r1 r2 q0 q1 q2
                        clear cu9 A9z hgl9 F9 E9 E11 A7b A8 cu8 hgl8 LY8 LZ8 hzc HW0 HW1 HW2 HKS cK cO cLY cLZ E78 E811 Sup
                        go_simp
                        go_upto_region 15 with fail
                        have hlz : (xl ++ [(s, S)]).length = nx + 1 := by rw [List.length_append, HNX.out]; rfl
                        have hly : (xl ++ [(s, ([] : List UInt8))]).length = nx + 1 := by rw [List.length_append, HNX.out]; rfl
                        obtain ⟨W14, hW14⟩ : ∃ W14 : World, W14 = ((W11.setCell ⟨g, 0, none⟩ (.string (ofL xi))).setCell ⟨g, 1, none⟩ (.slice (some ⟨gz, 0, none⟩) (nx + 1) cz)).setCell ⟨g, 2, none⟩ (.string (ofL Zt)) := ⟨_, rfl⟩
                        rw [← hW14]
                        have S14 : KnSt w W14 g id tag A c l.length ⟨xi, Zt, some ⟨gz, 0, none⟩, cz, xl ++ [(s, S)]⟩ := by
                          have h := SB.put hwg ⟨xi, Zt, some ⟨gz, 0, none⟩, cz, xl ++ [(s, S)]⟩ (by dsimp only; rw [hlz]; exact LZb) (fun _ b o e => by cases e; omega)
                          dsimp only at h
                          rw [hlz, ← hW14] at h
                          exact h
                        have hne9 : g9 ≠ g := by omega
                        have AY14 : Arr W14 g9 24 [.string (ofL xi), .slice (some ⟨gy, 0, none⟩) (nx + 1) cy, .string (ofL Yt)] := by rw [hW14]; exact ((AY.other _ hne9).other _ hne9).other _ hne9
                        have LY14 : RdLinks W14 W14.heap.size (.slice (some ⟨gy, 0, none⟩) (nx + 1) cy) (xl ++ [(s, [])]) := by
                          have hf : 0 < (xl ++ [(s, ([] : List UInt8))]).length → ∀ b o, some (⟨gy, 0, none⟩ : Addr) = some ⟨b, o, none⟩ → b ≠ g := fun _ b o e => by cases e; omega
                          unfold RdLinks at LYb ⊢
                          rw [← hly] at LYb ⊢
                          rw [hW14]
                          simpa using rd_set (rd_set (rd_set LYb hf _) hf _) hf _
                        have S16 := S14.put hwg ⟨xi, Yt, some ⟨gy, 0, none⟩, cy, xl ++ [(s, [])]⟩ (by dsimp only; rw [hly]; exact LY14) (fun _ b o e => by cases e; omega)
                        dsimp only at S16
                        rw [hly] at S16
                        have qs := q.out W14 S14.ext
                        have cu14 := S14.cur
                        dsimp only at cu14
                        rw [hlz] at cu14
                        clear r0 r1 r2 q0 q1 q2 z0 z1 z2 hW14 SB AY AZ cuB LYb LZb LY14
                        have r0 := AY14.cell 0; have r1 := AY14.cell 1; have r2 := AY14.cell 2
                        have q0 := cu14.cell 0; have q1 := cu14.cell 1; have q2 := cu14.cell 2
                        have z0 := cu14.frozen 0; have z1 := cu14.frozen 1; have z2 := cu14.frozen 2
                        simp only [List.getElem?_cons_zero, List.getElem?_cons_succ] at r0 r1 r2 q0 q1 q2
                        have HLZ := Kp.mk hlz; have HLY := Kp.mk hly
                        clear AY14 cu14 hlz hly LK cu0 hgl
                        by_cases hp : (s.length : Int) % 2 = 0
                        · have d : ((s.length : Int) % 2 == 0) = true := by simp [hp]
                          clear hp
                          go_wp2
                          go_roundw
                          case rel => exact ⟨j + 1, ⟨xi, Yt, some ⟨gy, 0, none⟩, cy, xl ++ [(s, [])]⟩, by omega, by go_num, KY.out, S16⟩
                          case measure => simp [intOf]; omega
                        · have d : ((s.length : Int) % 2 == 0) = false := by simp; omega
                          clear hp
                          go_wp2
                          go_roundw
                          case rel => exact ⟨j + 1, ⟨xi, Zt, some ⟨gz, 0, none⟩, cz, xl ++ [(s, S)]⟩, by omega, by go_num, KZ.out, S14⟩
                          case measure => simp [intOf]; omega
              · obtain ⟨xi, xt, XA, xc, xl⟩ := X
                have hlen : xl.length = l.length + j := hlen
                have hj2 : j = ls.length := by omega
                have hh := HK.out.hid
                have hh : xi = id := hh
                have htag := HK.out.htag
                have htag : xt = lastL k id xl := htag
                have lxt : xt.length = 32 := by rw [htag]; exact length_lastL _ _ _
                have cT := Kp.mk (rtags_any k xi xt (.slice XA xl.length xc) xl wr (by omega) (by rw [hh]; have := hsml.out.1; omega) hS.lnk HK.out.short (by omega))
                have hlast := Kp.mk (show (tagsL k xi xl)[xl.length]? = some xt by rw [tagsL_get k xi xl _ (Nat.le_refl _), List.take_length, hh, ← htag])
                obtain ⟨nx, hnx⟩ : ∃ nx, xl.length = nx := ⟨_, rfl⟩
                have F1 := hS.ext
                have cu := hS.cur
                have tk := hS.tok
                dsimp only at cu
                rw [hnx] at cu cT hlast hlen
                unfold tokV at cT
                have w5 : ((nx : Int) == (l.length : Int) + ls.length) = true := by simp; omega
                have w4 : IntKind.i64.wrap ((l.length : Int) + ls.length) = (l.length : Int) + ls.length := IntWalk.i64_in _ (by omega)
                have w1 : (nx : Int) + 1 - 1 = nx := by omega
                have w2 : IntKind.i64.wrap (nx : Int) = nx := IntWalk.i64_in _ (by omega)
                have HW1 := Kp.mk w1; have HW2 := Kp.mk w2; have HW4 := Kp.mk w4; have HW5 := Kp.mk w5
                have hnx20 : nx ≤ 20 := by omega
                have q0 := cu.cell 0; have q1 := cu.cell 1; have q2 := cu.cell 2
                simp only [List.getElem?_cons_zero, List.getElem?_cons_succ] at q0 q1 q2
                clear hS hh htag hj2 w1 w2 w4 w5 hnx hlen
                go_wp2_with fail
                refine cT.out.mono ?_
                rintro e w3 ⟨v3, rfl, own3, E3⟩
                obtain ⟨gt, ct, rfl⟩ := ownsRow_succ own3
                have cu3 := cu.ext E3 cu.lt
                have tk3 := tk.ext E3 tk.lt
                have F3 := F1.tr E3
                have hgc := Kp.mk (show ∀ W, Ext w3 W → W.cell? ⟨gt, nx, none⟩ = some (.string (ofL xt)) from fun W hW => ((bcell hW).1 gt _ (own3.lt gt rfl).2).trans ((own3.cellAt nx (by omega)).trans (by rw [List.getElem?_map, hlast.out]; rfl)))
                clear own3 E3 cT q0 q1 q2 cu tk F1 hlast
                go_upto_region 18 with fail
                refine wp_region_stageE [] (fun bs W => Ext w3 W) (fun bs i v W => match i with
                  | 0 => v = .pointer (some ⟨g, 2, none⟩)
                  | 1 => v = .string (ofL xt)
                  | 2 => v = .slice (some ⟨gt, 0, none⟩) (nx + 1) ct
                  | 3 => v = .slice (some ⟨gt, 0, none⟩) (nx + 1) ct
                  | 4 => v = .int .i64 (nx + 1)
                  | 5 => v = .int .i64 nx
                  | 6 => v = .pointer (some ⟨gt, nx, none⟩)
                  | 7 => v = .string (ofL xt)
                  | 8 => v = .bool true
                  | 9 => v = .bool true
                  | 10 => v = .pointer (some ⟨g, 1, none⟩)
                  | 11 => v = .slice XA nx xc
                  | 12 => v = .int .i64 nx
                  | 13 => v = .pointer (some ⟨w.heap.size, 1, none⟩)
                  | 14 => v = .slice A l.length c
                  | 15 => v = .int .i64 l.length
                  | 16 => v = .slice As ls.length cs
                  | 17 => v = .int .i64 ls.length
                  | 18 => v = .int .i64 ((l.length : Int) + ls.length)
                  | 19 => v = .bool true
                  | 20 => v = .bool true
                  | 21 => v = .bool true
                  | 22 => v = .bool true
                  | 23 => v = .bool true
                  | 24 => v = .bool true
                  | _ => True) (cs_inj (by decide)) (by decide) (by kernel_rfl) (by kernel_rfl) (by kernel_rfl) (by kernel_rfl) ((Ext.rfl' w3).dr) (fun bs W1 W2 h e => h.tr e) ?_ ?_ ?_
                · intro bs i v W1 W2 e1 e2 h
                  match i, h with
                  | 0, h => exact h
                  | 1, h => exact h
                  | 2, h => exact h
                  | 3, h => exact h
                  | 4, h => exact h
                  | 5, h => exact h
                  | 6, h => exact h
                  | 7, h => exact h
                  | 8, h => exact h
                  | 9, h => exact h
                  | 10, h => exact h
                  | 11, h => exact h
                  | 12, h => exact h
                  | 13, h => exact h
                  | 14, h => exact h
                  | 15, h => exact h
                  | 16, h => exact h
                  | 17, h => exact h
                  | 18, h => exact h
                  | 19, h => exact h
                  | 20, h => exact h
                  | 21, h => exact h
                  | 22, h => exact h
                  | 23, h => exact h
                  | 24, h => exact h
                  | (i + 25), h => exact h
                · intro HF
                  refine localsQ_ord (by decide) (fun bs u W hbs hW hno hd => ?_) ?_
                  · refine opLeaves_ev HF rfl fun ev zc zg zf zt => ?_
                    have t7 : ev (.tmp 7) = .pointer (some ⟨g, 0, none⟩) := zt 7
                    clear zt
                    exact ev_val (v := .pointer (some ⟨g, 2, none⟩)) (by go_simp) rfl
                  refine localsQ_ord (by decide) (fun bs u W hbs hW hno hd => ?_) ?_
                  · refine opLeaves_ev HF rfl fun ev zc zg zf zt => ?_
                    have t141 : ev (.tmp 141) = u 0 := zt 141
                    clear zt
                    have h0 : u 0 = _ := hd 0 (by kernel_rfl)
                    have r1 := (cu3.ext hW cu3.lt).cell 2
                    simp only [List.getElem?_cons_zero, List.getElem?_cons_succ] at r1
                    exact ev_val (v := .string (ofL xt)) (by go_simp) rfl
                  refine localsQ_ord (by decide) (fun bs u W hbs hW hno hd => ?_) ?_
                  · refine opLeaves_ev HF rfl fun ev zc zg zf zt => ?_
                    have t15 : ev (.tmp 15) = .slice (some ⟨gt, 0, none⟩) (nx + 1) ct := zt 15
                    clear zt
                    exact ev_val (v := .slice (some ⟨gt, 0, none⟩) (nx + 1) ct) (by go_simp) rfl
                  refine localsQ_ord (by decide) (fun bs u W hbs hW hno hd => ?_) ?_
                  · refine opLeaves_ev HF rfl fun ev zc zg zf zt => ?_
                    have t15 : ev (.tmp 15) = .slice (some ⟨gt, 0, none⟩) (nx + 1) ct := zt 15
                    clear zt
                    exact ev_val (v := .slice (some ⟨gt, 0, none⟩) (nx + 1) ct) (by go_simp) rfl
                  refine localsQ_ord (by decide) (fun bs u W hbs hW hno hd => ?_) ?_
                  · refine opLeaves_ev HF rfl fun ev zc zg zf zt => ?_
                    have t144 : ev (.tmp 144) = u 3 := zt 144
                    clear zt
                    have h3 : u 3 = _ := hd 3 (by kernel_rfl)
                    exact ev_val (v := .int .i64 (nx + 1)) (by go_simp) rfl
                  refine localsQ_ord (by decide) (fun bs u W hbs hW hno hd => ?_) ?_
                  · refine opLeaves_ev HF rfl fun ev zc zg zf zt => ?_
                    have t145 : ev (.tmp 145) = u 4 := zt 145
                    clear zt
                    have h4 : u 4 = _ := hd 4 (by kernel_rfl)
                    have w1 := HW1.out
                    have w2 := HW2.out
                    exact ev_val (v := .int .i64 nx) (by go_simp) rfl
                  refine localsQ_ord (by decide) (fun bs u W hbs hW hno hd => ?_) ?_
                  · refine opLeaves_ev HF rfl fun ev zc zg zf zt => ?_
                    have t143 : ev (.tmp 143) = u 2 := zt 143
                    have t146 : ev (.tmp 146) = u 5 := zt 146
                    clear zt
                    have h2 : u 2 = _ := hd 2 (by kernel_rfl)
                    have h5 : u 5 = _ := hd 5 (by kernel_rfl)
                    exact ev_val (v := .pointer (some ⟨gt, nx, none⟩)) (by go_simp; omega) rfl
                  refine localsQ_ord (by decide) (fun bs u W hbs hW hno hd => ?_) ?_
                  · refine opLeaves_ev HF rfl fun ev zc zg zf zt => ?_
                    have t147 : ev (.tmp 147) = u 6 := zt 147
                    clear zt
                    have h6 : u 6 = _ := hd 6 (by kernel_rfl)
                    have r0 := hgc.out W hW
                    exact ev_val (v := .string (ofL xt)) (by go_simp) rfl
                  refine localsQ_ord (by decide) (fun bs u W hbs hW hno hd => ?_) ?_
                  · refine opLeaves_ev HF rfl fun ev zc zg zf zt => ?_
                    have t142 : ev (.tmp 142) = u 1 := zt 142
                    have t148 : ev (.tmp 148) = u 7 := zt 148
                    clear zt
                    have h1 : u 1 = _ := hd 1 (by kernel_rfl)
                    have h7 : u 7 = _ := hd 7 (by kernel_rfl)
                    exact ev_val (v := .bool true) (by go_simp) rfl
                  refine localsQ_ord (by decide) (fun bs u W hbs hW hno hd => ?_) ?_
                  · refine opLeaves_ev HF rfl fun ev zc zg zf zt => ?_
                    have t149 : ev (.tmp 149) = u 8 := zt 149
                    clear zt
                    have h8 : u 8 = _ := hd 8 (by kernel_rfl)
                    exact ev_val (v := .bool true) (by go_simp) rfl
                  refine localsQ_ord (by decide) (fun bs u W hbs hW hno hd => ?_) ?_
                  · have h9 : u 9 = _ := hd 9 (by kernel_rfl)
                    exact leaves_val (by simp [Region.wanted, yielded, go_sem, h9]) (v := .pointer (some ⟨g, 1, none⟩)) (by go_simp) rfl
                  refine localsQ_ord (by decide) (fun bs u W hbs hW hno hd => ?_) ?_
                  · have h9 : u 9 = _ := hd 9 (by kernel_rfl)
                    have h10 : u 10 = _ := hd 10 (by kernel_rfl)
                    have r1 := (cu3.ext hW cu3.lt).cell 1
                    simp only [List.getElem?_cons_zero, List.getElem?_cons_succ] at r1
                    exact leaves_val (by simp [Region.wanted, yielded, go_sem, h9]) (v := .slice XA nx xc) (by go_simp) rfl
                  refine localsQ_ord (by decide) (fun bs u W hbs hW hno hd => ?_) ?_
                  · have h9 : u 9 = _ := hd 9 (by kernel_rfl)
                    have h11 : u 11 = _ := hd 11 (by kernel_rfl)
                    exact leaves_val (by simp [Region.wanted, yielded, go_sem, h9]) (v := .int .i64 nx) (by go_simp) rfl
                  refine localsQ_ord (by decide) (fun bs u W hbs hW hno hd => ?_) ?_
                  · have h9 : u 9 = _ := hd 9 (by kernel_rfl)
                    exact leaves_val (by simp [Region.wanted, yielded, go_sem, h9]) (v := .pointer (some ⟨w.heap.size, 1, none⟩)) (by go_simp) rfl
                  refine localsQ_ord (by decide) (fun bs u W hbs hW hno hd => ?_) ?_
                  · have h9 : u 9 = _ := hd 9 (by kernel_rfl)
                    have h13 : u 13 = _ := hd 13 (by kernel_rfl)
                    have r1 := (tk3.ext hW tk3.lt).cell 1
                    simp only [List.getElem?_cons_zero, List.getElem?_cons_succ] at r1
                    exact leaves_val (by simp [Region.wanted, yielded, go_sem, h9]) (v := .slice A l.length c) (by go_simp) rfl
                  refine localsQ_ord (by decide) (fun bs u W hbs hW hno hd => ?_) ?_
                  · have h9 : u 9 = _ := hd 9 (by kernel_rfl)
                    have h14 : u 14 = _ := hd 14 (by kernel_rfl)
                    exact leaves_val (by simp [Region.wanted, yielded, go_sem, h9]) (v := .int .i64 l.length) (by go_simp) rfl
                  refine localsQ_ord (by decide) (fun bs u W hbs hW hno hd => ?_) ?_
                  · have h9 : u 9 = _ := hd 9 (by kernel_rfl)
                    exact leaves_val (by simp [Region.wanted, yielded, go_sem, h9]) (v := .slice As ls.length cs) (by go_simp) rfl
                  refine localsQ_ord (by decide) (fun bs u W hbs hW hno hd => ?_) ?_
                  · have h9 : u 9 = _ := hd 9 (by kernel_rfl)
                    have h16 : u 16 = _ := hd 16 (by kernel_rfl)
                    exact leaves_val (by simp [Region.wanted, yielded, go_sem, h9]) (v := .int .i64 ls.length) (by go_simp) rfl
                  refine localsQ_ord (by decide) (fun bs u W hbs hW hno hd => ?_) ?_
                  · have h9 : u 9 = _ := hd 9 (by kernel_rfl)
                    have h15 : u 15 = _ := hd 15 (by kernel_rfl)
                    have h17 : u 17 = _ := hd 17 (by kernel_rfl)
                    have w4 := HW4.out
                    exact leaves_val (by simp [Region.wanted, yielded, go_sem, h9]) (v := .int .i64 ((l.length : Int) + ls.length)) (by go_simp) rfl
                  refine localsQ_ord (by decide) (fun bs u W hbs hW hno hd => ?_) ?_
                  · have h9 : u 9 = _ := hd 9 (by kernel_rfl)
                    have h12 : u 12 = _ := hd 12 (by kernel_rfl)
                    have h18 : u 18 = _ := hd 18 (by kernel_rfl)
                    have w5 := HW5.out
                    exact leaves_val (by simp [Region.wanted, yielded, go_sem, h9]) (v := .bool true) (by go_simp) rfl
                  refine localsQ_ord (by decide) (fun bs u W hbs hW hno hd => ?_) ?_
                  · refine opLeaves_ev HF rfl fun ev zc zg zf zt => ?_
                    have t150 : ev (.tmp 150) = u 9 := zt 150
                    have t160 : ev (.tmp 160) = u 19 := zt 160
                    clear zt
                    have h9 : u 9 = _ := hd 9 (by kernel_rfl)
                    have h19 : u 19 = _ := hd 19 (by kernel_rfl)
                    exact ev_val (v := .bool true) (by go_simp) rfl
                  refine localsQ_ord (by decide) (fun bs u W hbs hW hno hd => ?_) ?_
                  · refine opLeaves_ev HF rfl fun ev zc zg zf zt => ?_
                    have t161 : ev (.tmp 161) = u 20 := zt 161
                    clear zt
                    have h20 : u 20 = _ := hd 20 (by kernel_rfl)
                    exact ev_val (v := .bool true) (by go_simp) rfl
                  refine localsQ_ord (by decide) (fun bs u W hbs hW hno hd => ?_) ?_
                  · have h21 : u 21 = _ := hd 21 (by kernel_rfl)
                    exact leaves_call (by simp [Region.wanted, yielded, go_sem, h21]) (f := 12) (args := #[]) (by go_simp) ((cW.out W (hT.ext (F3.tr hW))).mono (by rintro e9 W9 ⟨rfl, h9⟩; exact ⟨_, rfl, h9, rfl⟩))
                  refine localsQ_ord (by decide) (fun bs u W hbs hW hno hd => ?_) ?_
                  · refine opLeaves_ev HF rfl fun ev zc zg zf zt => ?_
                    have t162 : ev (.tmp 162) = u 21 := zt 162
                    have t163 : ev (.tmp 163) = u 22 := zt 163
                    clear zt
                    have h21 : u 21 = _ := hd 21 (by kernel_rfl)
                    have h22 : u 22 = _ := hd 22 (by kernel_rfl)
                    exact ev_val (v := .bool true) (by go_simp) rfl
                  refine localsQ_ord (by decide) (fun bs u W hbs hW hno hd => ?_) localsQ_nil
                  · refine opLeaves_ev HF rfl fun ev zc zg zf zt => ?_
                    have t164 : ev (.tmp 164) = u 23 := zt 164
                    clear zt
                    have h23 : u 23 = _ := hd 23 (by kernel_rfl)
                    exact ev_val (v := .bool true) (by go_simp) rfl
                · intro u W E hV
                  have h24 : u 24 = .bool true := hV 24 (by decide)
                  clear hV
                  go_simp
                  go_wp2
                  exact bodyPost_ret (v := .bool true) (by simp [results, Tryd.results6, go_sem]) rfl ⟨rfl, F3.tr E⟩
theorem holderKnown_walk2 (a : ByteArray) (t : TokA) (v : Value) (ls : List (List UInt8)) (w : World) (hT : Tab w) (_ha : a.size ≤ maxLen) (ht : TokOk w t) (hr : Rd w w.heap.size 1 v ls.length (ls.map Str)) (_ : ls.length ≤ maxLen) (_ : ∀ s ∈ ls, s.length ≤ maxLen) : Calls Tryd.prog 6 #[.string a, tokAV t, v] w fun e w' => e = .returned (.bool true) ∧ Ext w w' := by
  have q := holderKnown_walk (toL a) t.id t.tag t.A t.c t.l v ls w hT ht.1 hr
  rw [ofL_toL] at q
  exact q
end Go.Proofs.YtejhiekikblbiaaDoor
