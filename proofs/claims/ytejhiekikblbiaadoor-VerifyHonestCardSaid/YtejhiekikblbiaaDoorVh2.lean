/-
  Chapter 37's laws: VerifyHonest returns true. Condition: the package's table holds the constants.
-/
import Derived.Test.YtejhiekikblbiaaDoorVh1
import Derived.Test.YtejhiekikblbiaaDoorVhPlain
import Derived.Test.YtejhiekikblbiaaDoorMgJ
namespace Go
open Go.Proofs.YtejhiekikblbiaaDoor Go.RowKit
section
variable {P : Program} {t e : TypeId} {z : Value} {size bytes : Nat}
theorem turnOk_val {ops : Array Oper} {o : Oper} {a : Act} {w w' : World} {v : Value} {J' : World → Prop} {Vi : Value → World → Prop} {Keep : World → Prop} (hg : o.guard = none) (hr : (execOp a.eval o).run P w = .ok (.value v) w') (h1 : J' w') (h2 : Vi v w') (h3 : Keep w') : TurnOk P ops o a w J' Vi Keep :=
  ⟨by simp [Region.wanted, hg], fun _ _ h => by unfold Oper.wp; rw [hr]; exact h _ _ h1 h2 h3⟩
theorem turnOk_app (E : Elem P t e z size bytes) {ops : Array Oper} {w : World} {o : Oper} {a : Act} {J' : World → Prop} {Vi : Value → World → Prop} {Keep : World → Prop} (hg : o.guard = none) (s x : Operand) (ho : o.op = .call { callee := .builtin .append, args := #[s, x], argTypes := #[t, t] })
    {base : Nat} {v : Value} {n : Nat} {xs : List Value} (hown : w.ownsRow base e size v n xs) {ad : Addr} (m : Nat) {c : Nat} {news : List Value} (hs : a.eval s = v) (hx : a.eval x = .slice (some ad) m c)
    (hl : news.length = m * size) (hnews : ∀ j u, news[j]? = some u → w.cell? (ad.add j) = some u) (h1 : ∀ u ∈ news, u.oneCell' = true) (h63 : n + m ≤ 9223372036854775807) (hbytes : (n + m) * bytes ≤ 140737488355328) (hbase : base ≤ w.heap.size)
    (h : ∀ v' w', w'.ownsRow base e size v' (n + m) (xs ++ news) → w.grownBy w' v.ownBlock → J' w' ∧ Vi v' w' ∧ Keep w') : TurnOk P ops o a w J' Vi Keep :=
  ⟨by simp [Region.wanted, hg], fun _ _ hK => wp_app E s x ho hown m hs hx hl hnews h1 h63 hbytes hbase (fun v' w' a b => hK v' w' (h v' w' a b).1 (h v' w' a b).2.1 (h v' w' a b).2.2)⟩
end
end Go
namespace Go.Proofs.YtejhiekikblbiaaDoor
open Go.RowKit

theorem bs_false {bs : List Bool} (h : bs.length = 1) (hn : bs[0]? = some true → False) : bs[0]? = some false := by
  match bs, h with
  | [b], _ =>
    cases b with
    | false => rfl
    | true => exact (hn rfl).elim
theorem bs2_false {bs : List Bool} (h : bs.length = 2) (hn : bs[1]? = some true → False) : bs[1]? = some false := by
  match bs, h with
  | [a, b], _ =>
    cases b with
    | false => rfl
    | true => exact (hn rfl).elim
/-- The holder's state without its rows. -/
structure VhApp (w W : World) (g : Nat) (X : TokA) (D : List TokA) : Prop where
  ext : Ext w W
  far : w.heap.size ≤ g
  cur : Arr W g 24 [.string (ofL X.id), .slice X.A X.l.length X.c, .string (ofL X.tag)]
  lnk : W.ownsRow (g + 1) 52 2 (.slice X.A X.l.length X.c) X.l.length (linkCells X.l)
  dlk : ∀ d ∈ D, W.ownsRow (g + 1) 52 2 (.slice d.A d.l.length d.c) d.l.length (linkCells d.l)
theorem VhSt.app {w W : World} {g : Nat} {X : TokA} {vm vo vr : Value} {D : List TokA} {O R : List (List UInt8)} (h : VhSt w W g X vm D vo O vr R) : VhApp w W g X D := ⟨h.ext, h.far, h.cur, h.lnk, h.dlk⟩
theorem VhApp.up {w W W' : World} {g : Nat} {X : TokA} {D : List TokA} (h : VhApp w W g X D) (e : Ext W W') : VhApp w W' g X D :=
  ⟨h.ext.tr e, h.far, h.cur.ext e h.cur.lt, own_ext h.lnk (fun j _ hj => e.block j hj), fun d hd => own_ext (h.dlk d hd) (fun j _ hj => e.block j hj)⟩
theorem VhApp.kept {w W W' : World} {g : Nat} {X : TokA} {D : List TokA} {v : Value} {n : Nat} {xs : List Value} (h : VhApp w W g X D) (hr : W.ownsRow (g + 1) 24 3 v n xs) (hg : W.grownBy W' v.ownBlock) : VhApp w W' g X D :=
  ⟨h.ext.gr hg (fun k hk => by have := (hr.lt k hk).1; have := h.far; omega), h.far, arr_kept h.cur hg (fun r e => by have := (hr.lt r e).1; omega), own_kept_type h.lnk hr (by decide) hg, fun d hd => own_kept_type (h.dlk d hd) hr (by decide) hg⟩
/-- Between two rounds. -/
structure VhRel (k : List UInt8) (j : Nat) (X : TokA) (D : List TokA) (O R : List (List UInt8)) (m : List (List UInt8 × TokL)) : Prop where
  hon : Hon k [105, 100] X.plain m O
  md : m.map (·.2) = D.map TokA.plain
  rest : R = m.flatMap (fun x => x.2.links.map (·.1))
  lenX : X.l.length ≤ j
  lenD : D.length ≤ j
  lenO : O.length ≤ j
  lenR : R.length ≤ 5 * j
  okX : OkT X
  okD : ∀ d ∈ D, OkT d ∧ d.l.length ≤ 5
theorem VhRel.tag {k : List UInt8} {j : Nat} {X : TokA} {D : List TokA} {O R : List (List UInt8)} {m : List (List UInt8 × TokL)} (h : VhRel k j X D O R m) : X.tag.length = 32 := by
  have h1 := h.hon.tag.2
  have h1 : X.tag = lastL k X.plain.id X.l := by rw [h.hon.tag.1]; exact h1
  rw [h1]; exact length_lastL _ _ _
theorem VhRel.own {k : List UInt8} {j : Nat} {X : TokA} {D : List TokA} {O R : List (List UInt8)} {m : List (List UInt8 × TokL)} (h : VhRel k j X D O R m) {s yt : List UInt8} (hj : j ≤ 100) (hs : s.length ≤ 300) (hy : nextL X.tag (s, []) = yt) (A : Option Addr) (c : Nat) : VhRel k (j + 1) ⟨X.id, yt, A, c, X.l ++ [(s, [])]⟩ D (O ++ [s]) R m := by
  have lyt : yt.length = 32 := by rw [← hy]; exact length_partsL _ _
  have hx := h.lenX; have ho := h.lenO; have hd := h.lenD; have hr := h.lenR
  refine ⟨?_, h.md, h.rest, by dsimp only; rw [List.length_append, List.length_singleton]; omega, by omega, by rw [List.length_append, List.length_singleton]; omega, by omega, ⟨h.okX.1, by dsimp only; omega, fun x hx => ?_, ?_⟩, h.okD⟩
  · have h1 := Hon.own s h.hon
    unfold withL at h1
    rw [show nextL X.plain.tag (s, []) = yt from hy] at h1
    exact h1
  · rcases List.mem_append.1 hx with hx | hx
    · exact h.okX.2.2.1 x hx
    · rw [List.mem_singleton.1 hx]; exact ⟨by dsimp only; omega, by simp⟩
  · dsimp only; rw [List.length_append, List.length_singleton]; omega
theorem VhRel.third {k : List UInt8} {j : Nat} {X : TokA} {D : List TokA} {O R : List (List UInt8)} {m : List (List UInt8 × TokL)} (h : VhRel k j X D O R m) {s ck S SB dt yt : List UInt8} {cs : List (List UInt8)} (hj : j ≤ 100) (hT : ThirdOk X.plain s cs ck S SB dt) (hy : nextL X.tag (S, SB) = yt) (hn : cs.length ≤ 5) (hc : ∀ c ∈ cs, c.length ≤ 300) (A : Option Addr) (c : Nat) (Ad : Option Addr) (cd : Nat) :
    VhRel k (j + 1) ⟨X.id, yt, A, c, X.l ++ [(S, SB)]⟩ (D ++ [⟨S, dt, Ad, cd, cs.map fun c => (c, [])⟩]) O (R ++ cs) (m ++ [(ck, ⟨S, cs.map (fun c => (c, [])), dt⟩)]) := by
  have lyt : yt.length = 32 := by rw [← hy]; exact length_partsL _ _
  have hx := h.lenX; have ho := h.lenO; have hd := h.lenD; have hr := h.lenR
  have h1 := hT.lenS; have h2 := hT.lenB; have h3 := hT.lenD
  refine ⟨?_, ?_, ?_, by dsimp only; rw [List.length_append, List.length_singleton]; omega, by rw [List.length_append, List.length_singleton]; omega, by omega, by rw [List.length_append]; omega, ⟨h.okX.1, by dsimp only; omega, fun x hx => ?_, ?_⟩, fun d hd => ?_⟩
  · have h1 := hT.hon h.hon
    unfold withL at h1
    rw [show nextL X.plain.tag (S, SB) = yt from hy] at h1
    exact h1
  · rw [List.map_append, List.map_append, h.md]; rfl
  · rw [List.flatMap_append, ← h.rest, List.flatMap_cons, List.flatMap_nil, List.append_nil]
    dsimp only
    rw [List.map_map]
    congr 1
    exact (List.map_id cs).symm
  · rcases List.mem_append.1 hx with hx | hx
    · exact h.okX.2.2.1 x hx
    · rw [List.mem_singleton.1 hx]; exact ⟨by dsimp only; omega, by dsimp only; omega⟩
  · dsimp only; rw [List.length_append, List.length_singleton]; omega
  · rcases List.mem_append.1 hd with hd | hd
    · exact h.okD d hd
    · rw [List.mem_singleton.1 hd]
      refine ⟨⟨by dsimp only; omega, by dsimp only; omega, fun x hx => ?_, by dsimp only; rw [List.length_map]; omega⟩, by dsimp only; rw [List.length_map]; omega⟩
      obtain ⟨c, hc2, rfl⟩ := List.mem_map.1 hx
      have := hc c hc2
      exact ⟨by dsimp only; omega, by simp⟩
theorem okT_bound {t : TokL} {ts : List TokA} {ds : List TokA} (h : ts.map TokA.plain = (ds.map TokA.plain).map (bindT t)) (hd : ∀ d ∈ ds, OkT d) : ∀ d ∈ ts, OkT d := by
  intro d hdm
  have h1 : d.plain ∈ ts.map TokA.plain := List.mem_map_of_mem hdm
  rw [h, List.map_map] at h1
  obtain ⟨x, hx, he⟩ := List.mem_map.1 h1
  have hx := hd x hx
  have e1 : x.id = d.id := congrArg TokL.id he
  have e2 : x.l = d.l := congrArg TokL.links he
  have e3 : bindL t.tag x.tag = d.tag := congrArg TokL.tag he
  refine ⟨by rw [← e1]; exact hx.1, ?_, by rw [← e2]; exact hx.2.2.1, by rw [← e2]; exact hx.2.2.2⟩
  have h5 : (bindL t.tag x.tag).length = 32 := length_partsL _ _
  rw [e3] at h5
  omega
theorem bound_bindT {t : TokL} {m : List (List UInt8 × TokL)} {D : List TokA} (h : m.map (·.2) = D.map TokA.plain) : (D.map TokA.plain).map (bindT t) = boundM t.tag m := by
  rw [← h, List.map_map]; rfl
theorem own_kept_far {W W' : World} {base : Nat} {e : TypeId} {size n : Nat} {v : Value} {xs : List Value} {row : Option Nat} (h : W.ownsRow base e size v n xs) (hg : W.grownBy W' row) (hne : ∀ r, v.ownBlock = some r → row ≠ some r) : W'.ownsRow base e size v n xs :=
  h.kept hg (by
    cases he : v.ownBlock with
    | none => exact .inl rfl
    | some r => exact .inr (fun e => hne r he e.symm))
theorem rd_tail {w : World} {B gm c : Nat} {d : TokA} {D : List TokA} (h : Rd w B 3 (.slice (some ⟨gm, 0, none⟩) (D.length + 1) c) (D.length + 1) (toksCells (d :: D))) (c' : Nat) : Rd w B 3 (.slice (some ⟨gm, 3, none⟩) D.length c') D.length (toksCells D) := by
  obtain ⟨A, c2, e, hn, hl, hc⟩ := h
  obtain ⟨b, off, e2, hb, hcell⟩ := hc (by omega)
  cases e
  cases e2
  refine ⟨_, c', rfl, by omega, by rw [length_toksCells], fun _ => ⟨gm, 3, rfl, hb, fun j u hu => ?_⟩⟩
  have h := hcell (j + 3) u (by
    rw [toksCells_cons]
    show (toksCells D)[j]? = some u
    exact hu)
  rw [Nat.zero_add] at h
  rw [Nat.add_comm 3 j]; exact h
set_option maxRecDepth 100000 in
set_option maxHeartbeats 16000000 in
theorem verifyHonest_walk (k : List UInt8) (va : Value) (la : List ActA) (w : World) (hT : Tab w) (hr : Rd w w.heap.size 3 va la.length (actsCells la)) (hok : ∀ a ∈ la, ActOk w a) :
    Calls Tryd.prog 10 #[.string (ofL k), va] w fun e w' => e = .returned (.bool true) ∧ Ext w w' := by
  have cW := Kp.mk veworks_any
  have zk : (ofL k).size = k.length := size_ofL _
  obtain ⟨Aa, ca, rfl, hnm, -, hcells⟩ := hr
  have HOK := Kp.mk hok
  obtain ⟨n, hn⟩ : ∃ n, la.length = n := ⟨_, rfl⟩
  have HN := Kp.mk hn
  rw [hn] at hcells ⊢
  have HC := Kp.mk (show ∀ j (hj : j < la.length), ∃ b off, Aa = some ⟨b, off, none⟩ ∧ ∀ W, Ext w W → W.cell? ⟨b, off + j * 3, none⟩ = some (.bool la[j].third) ∧ W.cell? ⟨b, off + j * 3 + 1, none⟩ = some (.string (ofL la[j].text)) ∧ W.cell? ⟨b, off + j * 3 + 2, none⟩ = some (.slice la[j].A la[j].l.length la[j].c) from fun j hj => by
    obtain ⟨b, off, rfl, hb, hc⟩ := hcells (by omega)
    obtain ⟨h1, h2, h3⟩ := actsCells_get la j hj
    refine ⟨b, off, rfl, fun W hW => ⟨?_, ?_, ?_⟩⟩
    · exact ((bcell hW).1 b _ hb).trans (hc _ _ h1)
    · exact ((bcell hW).1 b _ hb).trans (hc _ _ h2)
    · exact ((bcell hW).1 b _ hb).trans (hc _ _ h3))
  have cR := Kp.mk (show k.length ≤ 100 → Calls Tryd.prog 41 #[.string (ofL k), .string ⟨#[105, 100]⟩] w fun e w' => e = .returned (.string (ofL (rootL k [105, 100]))) ∧ Ext w w' from fun h => root_any k [105, 100] w hT (by omega) (by decide))
  obtain ⟨R0, hR0⟩ : ∃ R0, rootL k [105, 100] = R0 := ⟨_, rfl⟩
  have lR0 : R0.length = 32 := by rw [← hR0]; exact length_partsL _ _
  rw [hR0] at cR
  have HR0 := Kp.mk hR0
  clear hcells hok hn hR0
  by_cases g1 : 100 < k.length
  · have F1 := Ext.rfl' w
    go_enter Tryd.func10, Tryd.ntmps10
    go_wp2_with fail
    refine (cW.out _ (hT.ext F1)).mono ?_
    rintro e w9 ⟨rfl, E9⟩
    go_wp2
    go_ret
    exact ⟨rfl, F1.tr E9⟩
  · by_cases g2 : 8 < n
    · have F1 := Ext.rfl' w
      go_enter Tryd.func10, Tryd.ntmps10
      go_wp2_with fail
      refine (cW.out _ (hT.ext F1)).mono ?_
      rintro e w9 ⟨rfl, E9⟩
      go_wp2
      go_ret
      exact ⟨rfl, F1.tr E9⟩
    · have cR2 := Kp.mk (cR.out (by omega))
      clear cR
      go_enter Tryd.func10, Tryd.ntmps10
      go_wp2_with fail
      refine cR2.out.mono ?_
      rintro e w1 ⟨rfl, E1⟩
      obtain ⟨W2, hW2, E2, B2⟩ := tokbox w1 (.string (ofL [105, 100])) (.slice none 0 0) (.string (ofL R0))
      have HW2 := Kp.mk hW2
      obtain ⟨g, hg⟩ : ∃ g, w1.heap.size = g := ⟨_, rfl⟩
      rw [hg] at B2
      have hgw : w.heap.size ≤ g := by rw [← hg]; exact E1.size
      have S0 : VhSt w W2 g ⟨[105, 100], R0, none, 0, []⟩ (.slice none 0 0) [] (.slice none 0 0) [] (.slice none 0 0) [] :=
        ⟨E1.tr E2, hgw, B2, World.ownsRow_nil _ _ _ _, World.ownsRow_nil _ _ _ _, fun d hd => (by cases hd), World.ownsRow_nil _ _ _ _, World.ownsRow_nil _ _ _ _, fun r hr => (by cases hr)⟩
      have V0 : VhRel k 0 ⟨[105, 100], R0, none, 0, []⟩ [] [] [] [] :=
        ⟨by rw [← HR0.out]; exact Hon.nil, rfl, rfl, by simp, by simp, by simp, by simp, ⟨by simp, by dsimp only; omega, fun x hx => (by cases hx), by simp⟩, fun d hd => (by cases hd)⟩
      clear hW2 E1 E2 B2 cR2
      go_upto_region 4 with fail
      rw [show w1.alloc (.cells #[.string ⟨#[105, 100]⟩, .slice none 0 0, .string (ofL R0)] 24) = W2 from HW2.out]
      clear HW2 hg
      go_wp2_with fail
      go_loopw [9, 6, 7, 8] (fun i am ao ar wr => ∃ (j : Nat) (X : TokA) (D : List TokA) (O R : List (List UInt8)) (m : List (List UInt8 × TokL)) (vm vo vr : Value), vm = am ∧ vo = ao ∧ vr = ar ∧ i = .int .i64 j ∧ j ≤ n ∧ VhRel k j X D O R m ∧ VhSt w wr g X vm D vo O vr R) (fun i _ _ _ _ => n - (intOf i).toNat)
      case atStart => exact ⟨0, _, [], [], [], [], _, _, _, rfl, rfl, rfl, rfl, by omega, V0, S0⟩
      case round =>
        clear S0 V0 lR0 HR0
        obtain ⟨j, X, D, O, R, m, vm, vo, vr, rfl, rfl, rfl, rfl, hj, hV, hS⟩ := hrel
        have HV := Kp.mk hV
        have lxt := hV.tag
        have lx := hV.lenX; have lD := hV.lenD; have lO := hV.lenO; have lR := hV.lenR
        have lxi := hV.okX.1
        clear hV
        obtain ⟨Am, cm, rfl⟩ := own_slice hS.more
        obtain ⟨Ao, co, rfl⟩ := own_slice hS.own
        obtain ⟨Ar, cr, rfl⟩ := own_slice hS.oth
        by_cases hlt : j < n
        · obtain ⟨xi, xt, XA, xc, xl⟩ := X
          dsimp only at lxt lx lxi
          have hjl : j < la.length := by rw [HN.out]; exact hlt
          obtain ⟨ba, oa, rfl, hac⟩ := HC.out j hjl
          obtain ⟨a, ha⟩ : ∃ a, la[j] = a := ⟨_, rfl⟩
          have haok := HOK.out a (by rw [← ha]; exact List.getElem_mem hjl)
          rw [ha] at hac
          obtain ⟨th, s, Ac, cc, cs⟩ := a
          dsimp only at hac
          have AC := Kp.mk hac
          have CA := Kp.mk haok
          obtain ⟨nc, hnc⟩ : ∃ nc, cs.length = nc := ⟨_, rfl⟩
          obtain ⟨nx, hnx⟩ : ∃ nx, xl.length = nx := ⟨_, rfl⟩
          have zs : (ofL s).size = s.length := size_ofL _
          obtain ⟨r0, r1, r2⟩ := hac wr hS.ext
          rw [hnc] at r2
          have cH := Kp.mk (show Calls Tryd.prog 29 #[.slice Ac nc cc, .int .i64 5, .int .i64 300] wr fun e w' => e = .returned (.bool (shortL cs 5 300)) ∧ Ext wr w' from by
            have h := short_any cs 5 300 (.slice Ac cs.length cc) wr (rd_at haok hS.ext) (by omega)
            rw [hnc] at h
            exact h)
          have HNC := Kp.mk hnc; have HNX := Kp.mk hnx
          rw [hnx] at lx
          clear hac haok ha hnc hnx hjl
          by_cases g3 : 300 < s.length
          · have F1 := hS.ext
            clear hS r0 r2 cH
            go_wp2_with fail
            refine (cW.out _ (hT.ext F1)).mono ?_
            rintro e w9 ⟨rfl, E9⟩
            go_wp2
            go_ret
            exact ⟨rfl, F1.tr E9⟩
          · go_wp2_with fail
            refine cH.out.mono ?_
            rintro e w3 ⟨rfl, E3⟩
            have S3 := hS.up E3
            obtain ⟨sb, hsb⟩ : ∃ sb, shortL cs 5 300 = sb := ⟨_, rfl⟩
            rw [hsb]
            clear r0 r1 r2 hS cH E3
            cases sb with
            | false =>
              have F1 := S3.ext
              clear hsb S3
              go_wp2_with fail
              refine (cW.out _ (hT.ext F1)).mono ?_
              rintro e w9 ⟨rfl, E9⟩
              go_wp2
              go_ret
              exact ⟨rfl, F1.tr E9⟩
            | true =>
              have hc5 : cs.length ≤ 5 ∧ ∀ c ∈ cs, c.length ≤ 300 := by
                unfold shortL at hsb
                rw [Bool.and_eq_true, decide_eq_true_eq, decide_eq_true_eq] at hsb
                exact ⟨hsb.1, fun c hc => by have := mem_lenSum cs c hc; omega⟩
              have hnc5 : nc ≤ 5 := by rw [← HNC.out]; exact hc5.1
              have HC5 := Kp.mk hc5.2
              clear hsb hc5
              obtain ⟨r0, r1, r2⟩ := AC.out w3 S3.ext
              rw [HNC.out] at r2
              cases th with
              | false =>
                obtain ⟨yt, hyt⟩ : ∃ yt, nextL xt (s, []) = yt := ⟨_, rfl⟩
                have LX := Kp.mk (own_links S3.lnk rfl)
                have cA := Kp.mk (show ∀ W, Ext w3 W → Calls Tryd.prog 24 #[.agg #[.string (ofL xi), .slice XA nx xc, .string (ofL xt)], .string (ofL s)] W fun e w' => ∃ v, e = .returned v ∧ Ext W w' ∧ ∃ A1 c1, v = .tuple #[.agg #[.string (ofL xi), .slice A1 (nx + 1) c1, .string (ofL yt)], .int .i64 0] ∧ w'.ownsRow W.heap.size 52 2 (.slice A1 (nx + 1) c1) (nx + 1) (linkCells (xl ++ [(s, [])])) from fun W hW => by
                  have h := hoadd_any xi xt s XA xc xl W (hT.ext (S3.ext.tr hW)) (rd_at LX.out hW) (by rw [HNX.out]; omega) (by omega) (by omega)
                  rw [addL_ok (by show xl.length < 64; rw [HNX.out]; omega) (by omega)] at h
                  unfold tokV at h
                  rw [HNX.out] at h
                  refine h.mono fun e w' ⟨v, h1, h2, h3⟩ => ?_
                  obtain ⟨A1, c1, rfl⟩ := own_slice h2
                  have hl1 : (withL ⟨xi, xl, xt⟩ (s, [])).links.length = nx + 1 := by simp [withL, HNX.out]
                  dsimp only at h1 h2
                  rw [hl1] at h1 h2
                  refine ⟨_, h1, h3, A1, c1, ?_, h2⟩
                  rw [← hyt]; rfl)
                have cu0 := S3.cur
                dsimp only at cu0
                rw [HNX.out] at cu0
                have hgl := cu0.lt
                have hEx := S3.ext
                have HYT := Kp.mk hyt
                obtain ⟨wr, rfl⟩ : ∃ wr, wr = w3 := ⟨_, rfl⟩
                clear LX r1 r2 hyt
                go_upto_region 13 with fail
                refine wp_region_stage [10] (fun bs W => Ext w W ∧ (bs[0]? = some false → Ext wr W) ∧ (bs[0]? = some true → ∃ A1 c1, VhSt w W g ⟨xi, yt, A1, c1, xl ++ [(s, [])]⟩ (.slice Am D.length cm) D (.slice Ao O.length co) O (.slice Ar R.length cr) R)) (fun bs i v W => match i with
                  | 0 => v = .agg #[.string (ofL xi), .slice XA nx xc, .string (ofL xt)]
                  | 1 => v = .slice (some ⟨ba, oa, none⟩) n ca
                  | 2 => v = .int .i64 j
                  | 3 => v = .pointer (some ⟨ba, oa + j * 3, none⟩)
                  | 4 => v = .pointer (some ⟨ba, oa + j * 3 + 1, none⟩)
                  | 5 => v = .string (ofL s)
                  | 6 => ∃ A1 c1, v = .tuple #[.agg #[.string (ofL xi), .slice A1 (nx + 1) c1, .string (ofL yt)], .int .i64 0] ∧ W.ownsRow wr.heap.size 52 2 (.slice A1 (nx + 1) c1) (nx + 1) (linkCells (xl ++ [(s, [])]))
                  | 7 => ∃ A1 c1, v = .tuple #[.agg #[.string (ofL xi), .slice A1 (nx + 1) c1, .string (ofL yt)], .int .i64 0] ∧ W.ownsRow wr.heap.size 52 2 (.slice A1 (nx + 1) c1) (nx + 1) (linkCells (xl ++ [(s, [])]))
                  | 8 => ∃ A1 c1, v = .agg #[.string (ofL xi), .slice A1 (nx + 1) c1, .string (ofL yt)] ∧ W.ownsRow wr.heap.size 52 2 (.slice A1 (nx + 1) c1) (nx + 1) (linkCells (xl ++ [(s, [])]))
                  | 9 => v = .int .i64 0
                  | 10 => bs[0]? = some true
                  | 11 => v = .int .i64 0
                  | _ => True) (cs_inj (by decide)) (by decide) (by kernel_rfl) (by kernel_rfl) (by kernel_rfl) (⟨S3.ext.dr, fun _ => (Ext.rfl' wr).dr, fun hb => absurd hb (by decide)⟩) (fun bs W1 W2 ⟨a, p, q⟩ e => ⟨a.tr e, fun hb => (p hb).tr e, fun hb => by obtain ⟨A1, c1, h⟩ := q hb; exact ⟨A1, c1, h.up e⟩⟩) ?_ ?_ ?_
                · intro bs i v W1 W2 e1 e2 h
                  match i, h with
                  | 0, h => exact h
                  | 1, h => exact h
                  | 2, h => exact h
                  | 3, h => exact h
                  | 4, h => exact h
                  | 5, h => exact h
                  | 6, ⟨A1, c1, h1, h2⟩ => exact ⟨A1, c1, h1, own_ext h2 (fun j _ hj => e2.block j hj)⟩
                  | 7, ⟨A1, c1, h1, h2⟩ => exact ⟨A1, c1, h1, own_ext h2 (fun j _ hj => e2.block j hj)⟩
                  | 8, ⟨A1, c1, h1, h2⟩ => exact ⟨A1, c1, h1, own_ext h2 (fun j _ hj => e2.block j hj)⟩
                  | 9, h => exact h
                  | 10, h => exact h
                  | 11, h => exact h
                  | (i + 12), h => exact h
                · refine localsQ_ord (by decide) (fun bs u W hbs hW hno hd => ?_) ?_
                  · have hE := hW.2.1 (bs_false hbs (fun hb => nomatch ((Eq.trans (by kernel_rfl) (hno 0 10 _ hb rfl rfl)) : true = false)))
                    have q0 := (cu0.ext hE hgl).cell 0; have q1 := (cu0.ext hE hgl).cell 1; have q2 := (cu0.ext hE hgl).cell 2
                    simp only [List.getElem?_cons_zero, List.getElem?_cons_succ] at q0 q1 q2
                    exact leaves_val rfl (v := .agg #[.string (ofL xi), .slice XA nx xc, .string (ofL xt)]) (by go_simp) rfl
                  refine localsQ_ord (by decide) (fun bs u W hbs hW hno hd => leaves_val rfl (v := .slice (some ⟨ba, oa, none⟩) n ca) (by go_simp) rfl) ?_
                  refine localsQ_ord (by decide) (fun bs u W hbs hW hno hd => leaves_val rfl (v := .int .i64 j) (by go_simp) rfl) ?_
                  refine localsQ_ord (by decide) (fun bs u W hbs hW hno hd => ?_) ?_
                  · have h1 : u 1 = _ := hd 1 (by kernel_rfl)
                    have h2 : u 2 = _ := hd 2 (by kernel_rfl)
                    exact leaves_val rfl (v := .pointer (some ⟨ba, oa + j * 3, none⟩)) (by go_simp) rfl
                  refine localsQ_ord (by decide) (fun bs u W hbs hW hno hd => ?_) ?_
                  · have h3 : u 3 = _ := hd 3 (by kernel_rfl)
                    exact leaves_val rfl (v := .pointer (some ⟨ba, oa + j * 3 + 1, none⟩)) (by go_simp) rfl
                  refine localsQ_ord (by decide) (fun bs u W hbs hW hno hd => ?_) ?_
                  · have h4 : u 4 = _ := hd 4 (by kernel_rfl)
                    have hE := hW.2.1 (bs_false hbs (fun hb => nomatch ((Eq.trans (by kernel_rfl) (hno 0 10 _ hb rfl rfl)) : true = false)))
                    have q0 := (AC.out W (hEx.tr hE)).2.1
                    exact leaves_val rfl (v := .string (ofL s)) (by go_simp) rfl
                  refine localsQ_ord (by decide) (fun bs u W hbs hW hno hd => ?_) ?_
                  · have h0 : u 0 = _ := hd 0 (by kernel_rfl)
                    have h5 : u 5 = _ := hd 5 (by kernel_rfl)
                    have hE := hW.2.1 (bs_false hbs (fun hb => nomatch ((Eq.trans (by kernel_rfl) (hno 0 10 _ hb rfl rfl)) : true = false)))
                    exact leaves_call rfl (f := 24) (args := #[.agg #[.string (ofL xi), .slice XA nx xc, .string (ofL xt)], .string (ofL s)]) (by go_simp) ((cA.out W hE).mono (fun e9 W9 ⟨v9, h1, h2, A1, c1, h3, h4⟩ => ⟨v9, h1, h2, A1, c1, h3, own_more h4 hE.size⟩))
                  refine localsQ_ord (by decide) (fun bs u W hbs hW hno hd => ?_) ?_
                  · have h6 := hd 6 (by kernel_rfl)
                    exact leaves_val rfl (v := u 6) (by go_simp) h6
                  refine localsQ_ord (by decide) (fun bs u W hbs hW hno hd => ?_) ?_
                  · have h7 := hd 7 (by kernel_rfl)
                    obtain ⟨A1, c1, e5, o5⟩ := h7
                    exact leaves_val rfl (v := .agg #[.string (ofL xi), .slice A1 (nx + 1) c1, .string (ofL yt)]) (by go_simp) ⟨A1, c1, rfl, o5⟩
                  refine localsQ_ord (by decide) (fun bs u W hbs hW hno hd => ?_) ?_
                  · have h7 := hd 7 (by kernel_rfl)
                    obtain ⟨A1, c1, e5, o5⟩ := h7
                    exact leaves_val rfl (v := .int .i64 0) (by go_simp) rfl
                  refine localsQ_turnT 0 rfl (fun q hq => cs_inj (cs := [10]) (by decide) 0 q _ rfl hq) (fun bs u W hbs hb0 hW hd hcs => ?_) ?_
                  · have h8 := hd 8 (by kernel_rfl)
                    have hset : (bs.set 0 true)[0]? = some true := List.getElem?_set_self (by rw [hbs]; decide)
                    have hE := hW.2.1 hb0
                    obtain ⟨A1, c1, e8, o8⟩ := h8
                    have S7 := S3.up hE
                    have O9 := own_more (base' := g + 1) o8 hgl
                    have S8 := S7.tok ⟨xi, yt, A1, c1, xl ++ [(s, [])]⟩ (by dsimp only; rw [List.length_append, HNX.out]; exact O9)
                    dsimp only at S8
                    rw [show (xl ++ [(s, ([] : List UInt8))]).length = nx + 1 by rw [List.length_append, HNX.out]; rfl] at S8
                    have cu7 := S7.cur
                    dsimp only at cu7
                    obtain ⟨W', hW'⟩ : ∃ W' : World, W' = ((W.setCell ⟨g, 0, none⟩ (.string (ofL xi))).setCell ⟨g, 1, none⟩ (.slice A1 (nx + 1) c1)).setCell ⟨g, 2, none⟩ (.string (ofL yt)) := ⟨_, rfl⟩
                    rw [← hW'] at S8
                    refine turnOk_skip (w' := W') rfl (by rw [hW']; exact run_store_tok rfl (by go_simp) (by go_simp) cu7) ⟨S8.ext, (fun hb => (by rw [hset] at hb; cases hb)), fun _ => ⟨A1, c1, S8⟩⟩ hset ?_
                    · intro k h
                      match k, h with
                      | 0, h => exact h
                      | 1, h => exact h
                      | 2, h => exact h
                      | 3, h => exact h
                      | 4, h => exact h
                      | 5, h => exact h
                      | 6, ⟨A1, c1, h1, h2⟩ => exact ⟨A1, c1, h1, by rw [hW']; exact own_set_low (own_set_low (own_set_low h2 hgl _) hgl _) hgl _⟩
                      | 7, ⟨A1, c1, h1, h2⟩ => exact ⟨A1, c1, h1, by rw [hW']; exact own_set_low (own_set_low (own_set_low h2 hgl _) hgl _) hgl _⟩
                      | 8, ⟨A1, c1, h1, h2⟩ => exact ⟨A1, c1, h1, by rw [hW']; exact own_set_low (own_set_low (own_set_low h2 hgl _) hgl _) hgl _⟩
                      | 9, h => exact h
                      | 10, _ => exact hset
                      | 11, h => exact h
                      | (k + 12), h => exact h
                  refine localsQ_ord (by decide) (fun bs u W hbs hW hno hd => ?_) localsQ_nil
                  · have h9 : u 9 = _ := hd 9 (by kernel_rfl)
                    exact leaves_val rfl (v := .int .i64 0) (by go_simp) rfl
                · intro u W7 E7 hV
                  obtain ⟨A1, c1, S8⟩ := E7.2.2 rfl
                  have h11 : u 11 = _ := hV 11 (by decide)
                  clear hV cA r0 S3 E7 hEx cu0 hgl
                  go_simp
                  have hr8 := (AC.out W7 S8.ext).2.1
                  have hs8 := S8.ext.size
                  have hgs := S8.cur.lt
                  have S9 := S8.up ((Ext.rfl' W7).al (.cells #[.string (ofL s)] 9))
                  have hown := S9.own
                  go_upto_region 23 with (at_builtin; refine wpl_app_blk (ad := ⟨W7.heap.size, 0, none⟩) (c := 1) (news := [Str s]) Tryd.elemStr rfl _ _ rfl hown 1 rfl rfl rfl (fun j u h => cells_lit W7 [Str s] 9 (0, 0) j u h) (by intro u hu; simp at hu; rw [hu]; rfl) (by omega) (by omega) (by rw [World.size_alloc]; omega) ?_; intro v5 w5 own5 hg5 hn5; obtain ⟨A5, c5, hv5⟩ := own_slice own5; subst hv5; have S10 := S9.ownTo (xs := [s]) own5 hg5 hn5; clear own5 hg5 hn5 hown S9 S8 hr8)
                  have V10 := HV.out.own (by omega) (by omega) HYT.out A1 c1
                  dsimp only at V10
                  clear HV
                  go_wp2
                  go_roundw
                  case rel => exact ⟨j + 1, ⟨xi, yt, A1, c1, xl ++ [(s, [])]⟩, D, O ++ [s], R, m, _, _, _, rfl, rfl, rfl, by go_num, by omega, V10, by rw [show (⟨xi, yt, A1, c1, xl ++ [(s, [])]⟩ : TokA) = ⟨xi, yt, A1, c1, xl ++ [(s, [])]⟩ from rfl]; exact S10⟩
                  case measure => simp [intOf]; omega
              | true =>
                obtain ⟨ck, S, SB, dt, hTh⟩ := third_ex ⟨xi, xl, xt⟩ s cs (by show xl.length < 64; rw [HNX.out]; omega) (by omega) (by rw [HNC.out]; exact hnc5) HC5.out
                obtain ⟨yt, hyt⟩ : ∃ yt, nextL xt (S, SB) = yt := ⟨_, rfl⟩
                have lyt : yt.length = 32 := by rw [← hyt]; exact length_partsL _ _
                have lS := hTh.lenS; have lB := hTh.lenB; have ldt := hTh.lenD
                have lck : ck.length ≤ 311 := by rw [hTh.key, List.length_append]; show 11 + _ ≤ _; omega
                have ap : (⟨#[99, 97, 118, 101, 97, 116, 32, 107, 101, 121, 32]⟩ : ByteArray) ++ ofL s = ofL ck := by rw [hTh.key]; exact ofL_append cavS s
                have cT := Kp.mk (show ∀ W, Tab W → Calls Tryd.prog 34 #[.string ⟨#[110, 111, 116, 97, 114, 121]⟩, .string ⟨#[48, 49, 50, 51, 52, 53, 54, 55, 56, 57, 97, 98, 99, 100, 101, 102]⟩, .string (ofL ck), .string (ofL s)] W fun e w' => e = .returned (.tuple #[.string (ofL S), .int .i64 0]) ∧ Ext W w' from fun W h => by
                  have q := ticket_any notaryS nonceN ck s W h (by decide) (by omega) (by omega)
                  rw [hTh.ticket] at q
                  exact q)
                have cD := Kp.mk (show ∀ W, Ext w W → Calls Tryd.prog 36 #[.string ⟨#[110, 111, 116, 97, 114, 121]⟩, .string (ofL S), .slice Ac nc cc] W fun e w' => ∃ v, e = .returned (.tuple #[.agg #[.string (ofL S), v, .string (ofL dt)], .int .i64 0]) ∧ w'.ownsRow W.heap.size 52 2 v nc (linkCells (cs.map fun c => (c, []))) ∧ Ext W w' from fun W hW => by
                  have q := discharge_any notaryS S Ac cc cs W (hT.ext hW) (by decide) (by omega) (rd_at CA.out hW) (fun x hx => by have := HC5.out x hx; omega)
                  rw [hTh.disch, HNC.out] at q
                  exact q.mono fun e w' ⟨v, h3, h4, h5⟩ => ⟨v, h3, own_eq h4 rfl (by dsimp only; rw [List.length_map, HNC.out]), h5⟩)
                have cH3 := Kp.mk (show ∀ W, Tab W → RdLinks W W.heap.size (.slice XA nx xc) xl → Calls Tryd.prog 26 #[.agg #[.string (ofL xi), .slice XA nx xc, .string (ofL xt)], .string (ofL S), .string (ofL ck), .string ⟨#[102, 101, 100, 99, 98, 97, 57, 56, 55, 54, 53, 52, 51, 50, 49, 48]⟩] W fun e w' => ∃ v, e = .returned v ∧ Ext W w' ∧ ∃ A1 c1, v = .tuple #[.agg #[.string (ofL xi), .slice A1 (nx + 1) c1, .string (ofL yt)], .int .i64 0] ∧ w'.ownsRow W.heap.size 52 2 (.slice A1 (nx + 1) c1) (nx + 1) (linkCells (xl ++ [(S, SB)])) from fun W h1 h2 => by
                  have h := hothird_any xi xt S ck nonceF XA xc xl W h1 (by rw [HNX.out]; exact h2) (by rw [HNX.out]; omega) (by omega) (by omega)
                  rw [hTh.third] at h
                  unfold tokV at h
                  rw [HNX.out] at h
                  refine h.mono fun e w' ⟨v, h1, h2, h3⟩ => ?_
                  obtain ⟨A1, c1, rfl⟩ := own_slice h2
                  have hl1 : (withL ⟨xi, xl, xt⟩ (S, SB)).links.length = nx + 1 := by simp [withL, HNX.out]
                  dsimp only at h1 h2
                  rw [hl1] at h1 h2
                  refine ⟨_, h1, h3, A1, c1, ?_, h2⟩
                  rw [← hyt]; rfl)
                have HTh := Kp.mk hTh; have HYT := Kp.mk hyt
                clear hTh hyt
                go_wp2_with fail
                refine (cT.out _ (hT.ext S3.ext)).mono ?_
                rintro e w4 ⟨rfl, E4⟩
                have S4 := S3.up E4
                clear r0 r1 r2 S3 E4 cT
                obtain ⟨r0, r1, r2⟩ := AC.out w4 S4.ext
                rw [HNC.out] at r2
                go_wp2_with fail
                refine (cD.out _ S4.ext).mono ?_
                rintro e w5 ⟨vd, rfl, od, E5⟩
                obtain ⟨Ad, cd, rfl⟩ := own_slice od
                obtain ⟨W6, hW6, E6, B6⟩ := tokbox w5 (.string (ofL S)) (.slice Ad nc cd) (.string (ofL dt))
                have HW6 := Kp.mk hW6
                have S6 := (S4.up E5).up E6
                have hg4 := S4.cur.lt
                have hg5 : g < w5.heap.size := by have := E5.size; omega
                have od6 := own_more (base' := g + 1) (own_ext od (fun j _ hj => E6.block j hj)) hg4
                clear r0 r1 r2 S4 E5 E6 od hW6 cD ap
                go_upto_region 18 with fail
                rw [HW6.out]
                clear HW6
                have LX := own_links S6.lnk rfl
                have cu := S6.cur
                dsimp only at LX cu
                rw [HNX.out] at LX cu
                have q0 := cu.cell 0; have q1 := cu.cell 1; have q2 := cu.cell 2
                simp only [List.getElem?_cons_zero, List.getElem?_cons_succ] at q0 q1 q2
                go_wp2_with fail
                refine (cH3.out _ (hT.ext S6.ext) LX).mono ?_
                rintro e w7 ⟨v7, rfl, E7, A1, c1, rfl, o7⟩
                have S7 := S6.up E7
                have B7 := B6.ext E7 B6.lt
                have od7 := own_ext od6 (fun j _ hj => E7.block j hj)
                have hg6 := S6.cur.lt
                have o7b := own_more (base' := g + 1) o7 hg6
                have S8 := S7.tok ⟨xi, yt, A1, c1, xl ++ [(S, SB)]⟩ (by dsimp only; rw [List.length_append, HNX.out]; exact o7b)
                dsimp only at S8
                rw [show (xl ++ [(S, SB)]).length = nx + 1 by rw [List.length_append, HNX.out]; rfl] at S8
                have B8 := ((B7.other (g' := g) (j := 0) (.string (ofL xi)) (by omega)).other (g' := g) (j := 1) (.slice A1 (nx + 1) c1) (by omega)).other (g' := g) (j := 2) (.string (ofL yt)) (by omega)
                have od8 := own_set_low (j := 2) (own_set_low (j := 1) (own_set_low (j := 0) od7 (Nat.lt_succ_self g) (.string (ofL xi))) (Nat.lt_succ_self g) (.slice A1 (nx + 1) c1)) (Nat.lt_succ_self g) (.string (ofL yt))
                obtain ⟨W8, hW8⟩ : ∃ W8 : World, W8 = ((w7.setCell ⟨g, 0, none⟩ (.string (ofL xi))).setCell ⟨g, 1, none⟩ (.slice A1 (nx + 1) c1)).setCell ⟨g, 2, none⟩ (.string (ofL yt)) := ⟨_, rfl⟩
                rw [← hW8] at S8 B8 od8
                have HW8 := Kp.mk hW8
                have cu7 := S7.cur
                dsimp only at cu7
                rw [HNX.out] at cu7
                clear q0 q1 q2 cu LX S6 E7 B6 od6 o7 o7b S7 B7 od7 cH3 hW8
                have q0 := cu7.cell 0; have q1 := cu7.cell 1; have q2 := cu7.cell 2
                have z0 := cu7.frozen 0; have z1 := cu7.frozen 1; have z2 := cu7.frozen 2
                simp only [List.getElem?_cons_zero, List.getElem?_cons_succ] at q0 q1 q2
                go_upto_region 21 with fail
                rw [← HW8.out]
                clear q0 q1 q2 z0 z1 z2 cu7 HW8
                have t0 := B8.cell 0; have t1 := B8.cell 1; have t2 := B8.cell 2
                simp only [List.getElem?_cons_zero, List.getElem?_cons_succ] at t0 t1 t2
                have hs8 := S8.ext.size
                have hgs := S8.cur.lt
                have hmore := S8.more
                have htc := Kp.mk (show tokCells ⟨S, dt, Ad, cd, cs.map fun c => (c, [])⟩ = [.string (ofL S), .slice Ad nc cd, .string (ofL dt)] by unfold tokCells; dsimp only; rw [List.length_map, HNC.out])
                go_upto_region 22 with (at_builtin; refine wpl_app Tryd.elemTok rfl _ _ rfl hmore 1 rfl rfl rfl (by intro u hu; simp at hu; rcases hu with rfl | rfl | rfl <;> rfl) (by omega) (by omega) (by omega) ?_; intro v9 w9 own9 hg9; obtain ⟨A9, c9, hv9⟩ := own_slice own9; subst hv9; have S9 := S8.disch (d := ⟨S, dt, Ad, cd, cs.map fun c => (c, [])⟩) (by rw [htc.out]; exact own9) hg9 (by dsimp only; rw [List.length_map, HNC.out]; exact od8); clear own9 hg9 hmore od8 S8 B8 t0 t1 t2)
                obtain ⟨r0, r1, r2⟩ := AC.out w9 S9.ext
                rw [HNC.out] at r2
                have hoth := S9.oth
                have rdc := rd_at CA.out S9.ext
                dsimp only at rdc
                rw [HNC.out] at rdc
                have hgs9 := S9.cur.lt
                clear r0 r1
                go_upto_region 23 with (at_builtin; refine wpl_app_rd_blk Tryd.elemStr rfl _ _ rfl hoth rfl rfl rdc (oneCell_str _) (by omega) (by omega) (by omega) ?_; intro v10 w10 own10 hg10 hn10; obtain ⟨A10, c10, hv10⟩ := own_slice own10; subst hv10; have S10 := S9.othTo (xs := cs) (own_eq own10 rfl (by rw [HNC.out])) hg10 hn10; clear own10 hg10 hn10 hoth rdc S9 r2)
                have V10 := HV.out.third (by omega) HTh.out HYT.out (by rw [HNC.out]; exact hnc5) HC5.out A1 c1 Ad cd
                dsimp only at V10
                clear HV HTh
                go_wp2
                go_roundw
                case rel => exact ⟨j + 1, ⟨xi, yt, A1, c1, xl ++ [(S, SB)]⟩, _, O, R ++ cs, _, _, _, _, rfl, rfl, rfl, by go_num, by omega, V10, S10⟩
                case measure => simp [intOf]; omega
        · have hmD : m.length = D.length := by
            have h := congrArg List.length HV.out.md
            rwa [List.length_map, List.length_map] at h
          have hpr := HV.out.hon.prove (by omega) (by show X.l.length ≤ 64; omega) (fun x hx => by
            have h1 : x.2 ∈ m.map (·.2) := List.mem_map_of_mem hx
            rw [HV.out.md] at h1
            obtain ⟨d, hd, he⟩ := List.mem_map.1 h1
            have := (HV.out.okD d hd).2
            rw [← he]
            show d.l.length ≤ 64
            omega)
          rw [← HV.out.rest] at hpr
          have hnot := Kp.mk (HV.out.hon.not X.tag)
          have hOD := Kp.mk (show ∀ d ∈ D, OkT d from fun d hd => (HV.out.okD d hd).1)
          have hbnd := Kp.mk (show (D.map TokA.plain).map (bindT X.plain) = boundM X.plain.tag m from bound_bindT HV.out.md)
          have hD5 := Kp.mk (show ∀ d ∈ D, d.l.length ≤ 5 from fun d hd => (HV.out.okD d hd).2)
          have hmd := Kp.mk HV.out.md
          have hokX := Kp.mk HV.out.okX
          have hidX := HV.out.hon.tag.1
          have hpr := Kp.mk hpr
          clear HV HC HOK
          obtain ⟨xi, xt, XA, xc, xl⟩ := X
          dsimp only at lxt lx lxi
          have hidX : xi = [105, 100] := hidX
          obtain ⟨nx, hnx⟩ : ∃ nx, xl.length = nx := ⟨_, rfl⟩
          rw [hnx] at lx
          have cV := Kp.mk (show ∀ (A : Option Addr) (c : Nat) (A' : Option Addr) (c' : Nat) (ts : List TokA) (W : World), Tab W → RdLinks W W.heap.size (.slice A nx c) xl → RdToks W W.heap.size (.slice A' ts.length c') ts → (∀ d ∈ ts, OkT d) → ts.length ≤ 10000 → Calls Tryd.prog 39 #[.string (ofL k), .agg #[.string (ofL xi), .slice A nx c, .string (ofL xt), .slice A' ts.length c']] W (VerPost W (proveL k ⟨xi, xl, xt⟩ (ts.map TokA.plain))) from fun A c A' c' ts W h1 h2 h3 h4 h5 => by
            have h := verify_any k xi xt A c xl A' c' ts W h1 (by rw [hnx]; exact h2) h3 (by omega) ⟨hokX.out.1, hokX.out.2.1, hokX.out.2.2.1, hokX.out.2.2.2⟩ h4 h5
            unfold bunV at h
            rw [hnx] at h
            exact h)
          have cB := Kp.mk (show ∀ (vd : Value) (ds : List TokA) (W : World), Tab W → RdLinks W W.heap.size (.slice XA nx xc) xl → RdToks W W.heap.size vd ds → (∀ d ∈ ds, OkT d) → ds.length ≤ 10000 → Calls Tryd.prog 17 #[.agg #[.string (ofL xi), .slice XA nx xc, .string (ofL xt)], vd] W fun e w' => ∃ v, e = .returned v ∧ Ext W w' ∧ ∃ A c A' c' ts, v = .agg #[.string (ofL xi), .slice A nx c, .string (ofL xt), .slice A' ts.length c'] ∧ RdLinks w' w'.heap.size (.slice A nx c) xl ∧ RdToks w' w'.heap.size (.slice A' ts.length c') ts ∧ ts.map TokA.plain = (ds.map TokA.plain).map (bindT ⟨xi, xl, xt⟩) from fun vd ds W h1 h2 h3 h4 h5 => by
            have h := hobundle_any xi xt XA xc xl vd ds W h1 (by rw [hnx]; exact h2) h3 (by rw [hnx]; omega) (by omega) (fun d hd => ⟨(h4 d hd).2.2.2, by have := (h4 d hd).2.1; omega⟩) h5
            unfold tokV at h
            rw [hnx] at h
            refine h.mono fun e w' ⟨vl, vm, ts, h6, h7, h8, h9, h10⟩ => ?_
            obtain ⟨A, c, rfl, _⟩ := h7.cells
            obtain ⟨A', c', rfl, _⟩ := h8.cells
            dsimp only at h6 h7
            rw [hnx] at h6 h7
            exact ⟨_, h6, h10, A, c, A', c', ts, rfl, h7, h8, h9⟩)
          have HNX := Kp.mk hnx
          have cu := hS.cur
          dsimp only at cu
          rw [hnx] at cu
          have LX := own_links hS.lnk rfl
          dsimp only at LX
          rw [hnx] at LX
          have RM : RdToks wr wr.heap.size (.slice Am D.length cm) D := ⟨Rd.own hS.more (by decide), fun d hd => own_links (hS.dlk d hd) rfl⟩
          have q0 := cu.cell 0; have q1 := cu.cell 1; have q2 := cu.cell 2
          simp only [List.getElem?_cons_zero, List.getElem?_cons_succ] at q0 q1 q2
          clear hnx hidX
          go_wp2_with fail
          refine (cB.out _ D _ (hT.ext hS.ext) LX RM hOD.out (by omega)).mono ?_
          rintro e w3 ⟨v3, rfl, E3, A3, c3, A4, c4, ts, rfl, L3, T3, hts⟩
          have S3 := hS.up E3
          have htl : ts.length ≤ 10 := by
            have h := congrArg List.length hts
            rw [List.length_map, List.length_map, List.length_map] at h
            omega
          have hX3 := Kp.mk (show proveL k ⟨xi, xl, xt⟩ (ts.map TokA.plain) = proveL k ⟨xi, xl, xt⟩ (boundM xt m) by rw [hts]; exact congrArg _ hbnd.out)
          have cV3 := Kp.mk (cV.out A3 c3 A4 c4 ts w3 (hT.ext S3.ext) L3 T3 (okT_bound hts hOD.out) (by omega))
          clear q0 q1 q2 LX RM hS cu E3 hts L3 T3
          go_wp2_with fail
          refine cV3.out.mono ?_
          rintro e w4 ⟨v4, rfl, own4, E4⟩
          have S4 := S3.up E4
          rw [hX3.out, show (proveL k ⟨xi, xl, xt⟩ (boundM xt m)).2 = 0 from hpr.out.1]
          unfold toldL at own4
          rw [hX3.out, if_pos (show (proveL k ⟨xi, xl, xt⟩ (boundM xt m)).2 = 0 from hpr.out.1), show (proveL k ⟨xi, xl, xt⟩ (boundM xt m)).1.texts = O ++ R from hpr.out.2] at own4
          obtain ⟨A5, c5, rfl⟩ := own_slice own4
          have hOR : (O ++ R).length = O.length + R.length := List.length_append
          rw [hOR] at own4 ⊢
          have hsep : ∀ r, (Value.slice A5 (O.length + R.length) c5).ownBlock = some r → (Value.slice Ao O.length co).ownBlock ≠ some r := fun r h h2 => by
            have := (own4.lt r h).1
            have := (S3.own.lt r h2).2
            omega
          clear cV3 hX3 S3 E4 htl
          have hown := S4.own
          have hgs := S4.cur.lt
          have roth := Rd.own S4.oth (by decide)
          go_wp2_with (first | (at_builtin; refine wpl_app_rd_on Tryd.elemStr (by simp [Region.wanted, yielded, go_sem]) _ _ rfl hown rfl rfl roth (oneCell_str _) (by omega) (by omega) (by omega) ?_; intro v5 w5 own5 hg5 hn5; obtain ⟨A6, c6, hv5⟩ := own_slice own5; subst hv5; have S5 := S4.ownTo own5 hg5 hn5; have R5 := Rd.own (own_kept_far own4 hg5 hsep) (by decide); have RO := Rd.own own5 (by decide); clear own5 hn5 hown roth own4 hg5 hsep S4) | fail)
          have cS := Kp.mk (show Calls Tryd.prog 42 #[.slice A5 (O.length + R.length) c5, .slice A6 (O.length + R.length) c6] w5 fun e w' => e = .returned (.bool true) ∧ Ext w5 w' from by
            have q := sameTexts_any (O ++ R) (O ++ R) (.slice A5 (O.length + R.length) c5) (.slice A6 (O.length + R.length) c6) w5 (by rw [hOR]; exact R5) (by rw [hOR, List.map_append]; exact RO)
            rw [decide_eq_true rfl] at q
            exact q)
          clear R5 RO
          refine cS.out.mono ?_
          rintro e w6 ⟨rfl, E6⟩
          have S6 := S5.up E6
          clear S5 E6 cS hOR
          cases D with
          | nil =>
            have F1 := S6.ext
            clear S6
            simp only [List.length_nil]
            go_wp2_with fail
            refine (cW.out _ (hT.ext F1)).mono ?_
            rintro e w9 ⟨rfl, E9⟩
            go_wp2
            go_ret
            exact ⟨rfl, F1.tr E9⟩
          | cons d0 D' =>
            obtain ⟨nD, hnD⟩ : ∃ nD, D'.length = nD := ⟨_, rfl⟩
            have hDl : (d0 :: D').length = nD + 1 := by rw [List.length_cons, hnD]
            rw [hDl] at lD S6
            obtain ⟨gm, rfl, hcap⟩ : ∃ gm, Am = some ⟨gm, 0, none⟩ ∧ nD + 1 ≤ cm := by
              rcases S6.more.2 with ⟨h, _⟩ | ⟨gm, cap, cur, h, _, _, hnc, _⟩
              · injection h with h1 h2 h3
                omega
              · injection h with h1 h2 h3
                exact ⟨gm, h1, by omega⟩
            obtain ⟨cq, rfl⟩ : ∃ cq, cm = cq + 1 := ⟨cm - 1, by omega⟩
            have HND := Kp.mk hnD
            have cu := S6.cur
            dsimp only at cu
            rw [HNX.out] at cu
            have hgl := cu.lt
            have hdm : d0 :: D' = d0 :: D' := rfl
            obtain ⟨⟨k0, t0⟩, m', rfl⟩ : ∃ x m', m = x :: m' := by
              cases m with
              | nil => simp at hmD
              | cons x m' => exact ⟨x, m', rfl⟩
            have hmd' : m'.map (·.2) = D'.map TokA.plain := by
              have h := hmd.out
              rw [List.map_cons, List.map_cons] at h
              exact (List.cons.inj h).2
            have hml : m'.length = nD := by have h := congrArg List.length hmd'; rw [List.length_map, List.length_map, hnD] at h; exact h
            have HR30 := Kp.mk (show ∀ ts : List TokA, ts.map TokA.plain = (D'.map TokA.plain).map (bindT ⟨xi, xl, xt⟩) → (proveL k ⟨xi, xl, xt⟩ (ts.map TokA.plain)).2 = 11 ∧ (∀ d ∈ ts, OkT d) ∧ ts.length ≤ 10000 from fun ts hts => by
              refine ⟨?_, okT_bound hts (fun d hd => hOD.out d (List.mem_cons_of_mem _ hd)), ?_⟩
              · rw [hts, bound_bindT hmd']
                rcases hnot.out m' (fun x hx => List.mem_cons_of_mem _ hx) (by rw [List.length_cons]; omega) with h | ⟨_, h⟩
                · exact h
                · exfalso
                  have hb : (boundM xt m').length = nD := by unfold boundM; rw [List.length_map, hml]
                  unfold greatB at h
                  have h : (decide (8 < (boundM xt m').length) || decide (64 < xl.length) || (boundM xt m').any fun d => decide (64 < d.links.length)) = true := h
                  rw [hb, HNX.out, Bool.or_eq_true, Bool.or_eq_true, decide_eq_true_eq, decide_eq_true_eq, List.any_eq_true] at h
                  rcases h with (h | h) | ⟨d, hd, h⟩
                  · omega
                  · omega
                  · rw [decide_eq_true_eq] at h
                    unfold boundM at hd
                    obtain ⟨x, hx, rfl⟩ := List.mem_map.1 hd
                    have h1 : x.2 ∈ m'.map (·.2) := List.mem_map_of_mem hx
                    rw [hmd'] at h1
                    obtain ⟨d, hd, he⟩ := List.mem_map.1 h1
                    have h2 := hD5.out d (List.mem_cons_of_mem _ hd)
                    rw [← he] at h
                    have h : 64 < d.l.length := h
                    omega
              · have h := congrArg List.length hts
                rw [List.length_map, List.length_map, List.length_map, hnD] at h
                omega)
            obtain ⟨AQ, hAQ⟩ : ∃ AQ : Option Addr, (if cq = 0 then some (⟨gm, 0, none⟩ : Addr) else some ⟨gm, 3, none⟩) = AQ := ⟨_, rfl⟩
            have hAQ := Kp.mk hAQ
            have h1q : (1 : Int) ≤ (nD : Int) + 1 := by omega
            have T6 := Kp.mk (show ∀ W, Ext w6 W → RdToks W W.heap.size (.slice AQ nD cq) D' from fun W hW => by
              have S := S6.up hW
              have h := Rd.own S.more (by decide)
              refine ⟨?_, fun d hd => own_links (S.dlk d (List.mem_cons_of_mem _ hd)) rfl⟩
              by_cases h0 : cq = 0
              · have h00 : D' = [] := List.eq_nil_of_length_eq_zero (by omega)
                subst h00
                have hn0 : nD = 0 := hnD.symm
                subst hn0
                exact ⟨_, _, rfl, by decide, rfl, fun h => absurd h (by decide)⟩
              · rw [← hAQ.out, if_neg h0, ← hnD]
                rw [← hnD] at h
                exact rd_tail h cq)
            have L6 := Kp.mk (show ∀ W, Ext w6 W → RdLinks W W.heap.size (.slice XA nx xc) xl from fun W hW => by
              have h := own_links (S6.up hW).lnk rfl
              dsimp only at h
              rw [HNX.out] at h
              exact h)
            have F6 := S6.ext
            rw [hDl]
            clear hDl hnD hcap
            go_upto_region 30 with fail
            refine wp_region_stage [] (fun bs W => Ext w6 W) (fun bs i v W => match i with
              | 0 => v = .string (ofL k)
              | 1 => v = .agg #[.string (ofL xi), .slice XA nx xc, .string (ofL xt)]
              | 2 => v = .slice (some ⟨gm, 0, none⟩) (nD + 1) (cq + 1)
              | 3 => v = .slice AQ nD cq
              | 4 => ∃ A c A' c' ts, v = .agg #[.string (ofL xi), .slice A nx c, .string (ofL xt), .slice A' ts.length c'] ∧ RdLinks W W.heap.size (.slice A nx c) xl ∧ RdToks W W.heap.size (.slice A' ts.length c') ts ∧ ts.map TokA.plain = (D'.map TokA.plain).map (bindT ⟨xi, xl, xt⟩)
              | 5 => ∃ t, v = .tuple #[t, .int .i64 11]
              | 6 => ∃ t, v = .tuple #[t, .int .i64 11]
              | 7 => True
              | 8 => v = .int .i64 11
              | 9 => True
              | 10 => v = .int .i64 11
              | _ => True) (cs_inj (by decide)) (by decide) (by kernel_rfl) (by kernel_rfl) (by kernel_rfl) ((Ext.rfl' w6).dr) (fun bs W1 W2 h e => h.tr e) ?_ ?_ ?_
            · intro bs i v W1 W2 e1 e2 h
              match i, h with
              | 0, h => exact h
              | 1, h => exact h
              | 2, h => exact h
              | 3, h => exact h
              | 4, ⟨A, c, A', c', ts, h1, h2, h3, h4⟩ => exact ⟨A, c, A', c', ts, h1, rd_at h2 e2, h3.at e2, h4⟩
              | 5, h => exact h
              | 6, h => exact h
              | 7, h => exact h
              | 8, h => exact h
              | 9, h => exact h
              | 10, h => exact h
              | (i + 11), h => exact h
            · refine localsQ_ord (by decide) (fun bs u W hbs hW hno hd => leaves_val rfl (v := .string (ofL k)) (by go_simp) rfl) ?_
              refine localsQ_ord (by decide) (fun bs u W hbs hW hno hd => ?_) ?_
              · have q0 := (cu.ext hW hgl).cell 0; have q1 := (cu.ext hW hgl).cell 1; have q2 := (cu.ext hW hgl).cell 2
                simp only [List.getElem?_cons_zero, List.getElem?_cons_succ] at q0 q1 q2
                exact leaves_val rfl (v := .agg #[.string (ofL xi), .slice XA nx xc, .string (ofL xt)]) (by go_simp) rfl
              refine localsQ_ord (by decide) (fun bs u W hbs hW hno hd => leaves_val rfl (v := .slice (some ⟨gm, 0, none⟩) (nD + 1) (cq + 1)) (by go_simp) rfl) ?_
              refine localsQ_ord (by decide) (fun bs u W hbs hW hno hd => ?_) ?_
              · have h2 : u 2 = _ := hd 2 (by kernel_rfl)
                exact leaves_val rfl (v := .slice AQ nD cq) (by have e1 := h1q; have e2 := hAQ.out; go_simp) rfl
              refine localsQ_ord (by decide) (fun bs u W hbs hW hno hd => ?_) ?_
              · have h1 : u 1 = _ := hd 1 (by kernel_rfl)
                have h3 : u 3 = _ := hd 3 (by kernel_rfl)
                exact leaves_call rfl (f := 17) (args := #[.agg #[.string (ofL xi), .slice XA nx xc, .string (ofL xt)], .slice AQ nD cq]) (by go_simp) (cB.out _ D' W (hT.ext (F6.tr hW)) (L6.out W hW) (T6.out W hW) (fun d hd => hOD.out d (List.mem_cons_of_mem _ hd)) (by rw [HND.out]; omega))
              refine localsQ_ord (by decide) (fun bs u W hbs hW hno hd => ?_) ?_
              · have h0 : u 0 = _ := hd 0 (by kernel_rfl)
                have h4 := hd 4 (by kernel_rfl)
                obtain ⟨A, c, A', c', ts, e4, l4, t4, m4⟩ := h4
                obtain ⟨hr, ho, hl⟩ := HR30.out ts m4
                exact leaves_call rfl (f := 39) (args := #[.string (ofL k), .agg #[.string (ofL xi), .slice A nx c, .string (ofL xt), .slice A' ts.length c']]) (by go_simp) ((cV.out A c A' c' ts W (hT.ext (F6.tr hW)) l4 t4 ho hl).mono (fun e9 W9 ⟨v9, h1, h2, h3⟩ => ⟨.tuple #[v9, .int .i64 11], by rw [h1, hr]; rfl, h3, v9, rfl⟩))
              refine localsQ_ord (by decide) (fun bs u W hbs hW hno hd => ?_) ?_
              · have h5 := hd 5 (by kernel_rfl)
                exact leaves_val rfl (v := u 5) (by go_simp) h5
              refine localsQ_ord (by decide) (fun bs u W hbs hW hno hd => ?_) ?_
              · have h6 := hd 6 (by kernel_rfl)
                obtain ⟨t, e5⟩ := h6
                exact leaves_val rfl (v := t) (by go_simp) trivial
              refine localsQ_ord (by decide) (fun bs u W hbs hW hno hd => ?_) ?_
              · have h6 := hd 6 (by kernel_rfl)
                obtain ⟨t, e5⟩ := h6
                exact leaves_val rfl (v := .int .i64 11) (by go_simp) rfl
              refine localsQ_ord (by decide) (fun bs u W hbs hW hno hd => ?_) ?_
              · have h7 := hd 7 (by kernel_rfl)
                exact leaves_val rfl (v := u 7) (by go_simp) h7
              refine localsQ_ord (by decide) (fun bs u W hbs hW hno hd => ?_) localsQ_nil
              · have h8 : u 8 = _ := hd 8 (by kernel_rfl)
                exact leaves_val rfl (v := .int .i64 11) (by go_simp) rfl
            · intro u30 W30 E30 hV
              have h10 : u30 10 = _ := hV 10 (by decide)
              clear hV T6 L6
              have S30 := S6.up E30
              clear S6 E30 cu F6
              go_simp
              go_upto_region 31 with fail
              obtain ⟨GE, hGE⟩ : ∃ GE, (proveL k ⟨xi, xl, xt⟩ (((d0 :: D' ++ [d0]).map TokA.plain).map (bindT ⟨xi, xl, xt⟩))).2 = GE := ⟨_, rfl⟩
              have hmm : ((k0, t0) :: m' ++ [(k0, t0)]).map (·.2) = (d0 :: D' ++ [d0]).map TokA.plain := by
                have h := hmd.out
                rw [List.map_append, List.map_append, h]
                have h0 := h
                rw [List.map_cons, List.map_cons] at h0
                rw [List.map_singleton, List.map_singleton, (List.cons.inj h0).1]
              have hG2 : GE = 11 ∨ GE = 3 := by
                rw [← hGE, bound_bindT hmm]
                rcases hnot.out ((k0, t0) :: m' ++ [(k0, t0)]) (fun x hx => by
                  rcases List.mem_append.1 hx with hx | hx
                  · exact hx
                  · rw [List.mem_singleton.1 hx]; exact List.mem_cons_self) (by rw [List.length_append]; simp) with h | ⟨h, _⟩
                · exact .inl h
                · exact .inr h
              have hOD2 : ∀ d ∈ d0 :: D' ++ [d0], OkT d := fun d hd => by
                rcases List.mem_append.1 hd with hd | hd
                · exact hOD.out d hd
                · rw [List.mem_singleton.1 hd]; exact hOD.out d0 List.mem_cons_self
              have hl2 : (d0 :: D' ++ [d0]).length = nD + 1 + 1 := by rw [List.length_append, List.length_cons, HND.out]; rfl
              have HR31 := Kp.mk (show ∀ ts : List TokA, ts.map TokA.plain = ((d0 :: D' ++ [d0]).map TokA.plain).map (bindT ⟨xi, xl, xt⟩) → (proveL k ⟨xi, xl, xt⟩ (ts.map TokA.plain)).2 = GE ∧ (∀ d ∈ ts, OkT d) ∧ ts.length ≤ 10000 from fun ts hts => by
                refine ⟨by rw [hts]; exact hGE, okT_bound hts hOD2, ?_⟩
                have h := congrArg List.length hts
                rw [List.length_map, List.length_map, List.length_map, hl2] at h
                omega)
              have HOD2 := Kp.mk hOD2; have HL2 := Kp.mk hl2; have HG2 := Kp.mk hG2
              have hrow := S30.more
              have A30 := S30.app
              clear hGE hmm hOD2 hl2 hG2 S30 HR30
              refine wp_region_stage [6, 7] (fun bs W => VhApp w W g ⟨xi, xt, XA, xc, xl⟩ (d0 :: D') ∧ (bs[1]? = some false → W.ownsRow (g + 1) 24 3 (.slice (some ⟨gm, 0, none⟩) (nD + 1) (cq + 1)) (nD + 1) (toksCells (d0 :: D'))) ∧ (bs[1]? = some true → bs[0]? = some true)) (fun bs i v W => match i with
                | 0 => v = .string (ofL k)
                | 1 => v = .agg #[.string (ofL xi), .slice XA nx xc, .string (ofL xt)]
                | 2 => v = .slice (some ⟨gm, 0, none⟩) (nD + 1) (cq + 1)
                | 3 => v = .slice (some ⟨gm, 0, none⟩) (nD + 1) (cq + 1)
                | 4 => v = .pointer (some ⟨gm, 0, none⟩)
                | 5 => v = .agg #[.string (ofL d0.id), .slice d0.A d0.l.length d0.c, .string (ofL d0.tag)]
                | 6 => ∃ b5, v = .slice (some ⟨b5, 0, none⟩) 1 1 ∧ bs[0]? = some true ∧ (bs[1]? = some false → Arr W b5 24 (tokCells d0))
                | 7 => bs[1]? = some true ∧ ∃ A9 c9, v = .slice A9 (nD + 1 + 1) c9 ∧ RdToks W W.heap.size (.slice A9 (nD + 1 + 1) c9) (d0 :: D' ++ [d0])
                | 8 => bs[1]? = some true ∧ ∃ A c A' c' ts, v = .agg #[.string (ofL xi), .slice A nx c, .string (ofL xt), .slice A' ts.length c'] ∧ RdLinks W W.heap.size (.slice A nx c) xl ∧ RdToks W W.heap.size (.slice A' ts.length c') ts ∧ ts.map TokA.plain = ((d0 :: D' ++ [d0]).map TokA.plain).map (bindT ⟨xi, xl, xt⟩)
                | 9 => ∃ t, v = .tuple #[t, .int .i64 GE]
                | 10 => ∃ t, v = .tuple #[t, .int .i64 GE]
                | 11 => True
                | 12 => v = .int .i64 GE
                | 13 => True
                | 14 => v = .int .i64 GE
                | _ => True) (cs_inj (by decide)) (by decide) (by kernel_rfl) (by kernel_rfl) (by kernel_rfl) (⟨A30.up (Ext.rfl' W30).dr, fun _ => own_ext (own_eq hrow rfl (by rw [List.length_cons, HND.out])) (fun j _ hj => ((Ext.rfl' W30).dr).block j hj), fun h => absurd h (by decide)⟩) (fun bs W1 W2 ⟨a, p, q⟩ e => ⟨a.up e, fun hb => own_ext (p hb) (fun j _ hj => e.block j hj), q⟩) ?_ ?_ ?_
              · intro bs i v W1 W2 e1 e2 h
                match i, h with
                | 0, h => exact h
                | 1, h => exact h
                | 2, h => exact h
                | 3, h => exact h
                | 4, h => exact h
                | 5, h => exact h
                | 6, ⟨b5, h1, h2, h3⟩ => exact ⟨b5, h1, h2, fun hb => (h3 hb).ext e2 (h3 hb).lt⟩
                | 7, ⟨h1, A9, c9, h2, h3⟩ => exact ⟨h1, A9, c9, h2, h3.at e2⟩
                | 8, ⟨h0, A, c, A', c', ts, h1, h2, h3, h4⟩ => exact ⟨h0, A, c, A', c', ts, h1, rd_at h2 e2, h3.at e2, h4⟩
                | 9, h => exact h
                | 10, h => exact h
                | 11, h => exact h
                | 12, h => exact h
                | 13, h => exact h
                | 14, h => exact h
                | (i + 15), h => exact h
              · refine localsQ_ord (by decide) (fun bs u W hbs hW hno hd => leaves_val rfl (v := .string (ofL k)) (by go_simp) rfl) ?_
                refine localsQ_ord (by decide) (fun bs u W hbs hW hno hd => ?_) ?_
                · have cu := hW.1.cur
                  dsimp only at cu
                  rw [HNX.out] at cu
                  have q0 := cu.cell 0; have q1 := cu.cell 1; have q2 := cu.cell 2
                  simp only [List.getElem?_cons_zero, List.getElem?_cons_succ] at q0 q1 q2
                  exact leaves_val rfl (v := .agg #[.string (ofL xi), .slice XA nx xc, .string (ofL xt)]) (by go_simp) rfl
                refine localsQ_ord (by decide) (fun bs u W hbs hW hno hd => leaves_val rfl (v := .slice (some ⟨gm, 0, none⟩) (nD + 1) (cq + 1)) (by go_simp) rfl) ?_
                refine localsQ_ord (by decide) (fun bs u W hbs hW hno hd => leaves_val rfl (v := .slice (some ⟨gm, 0, none⟩) (nD + 1) (cq + 1)) (by go_simp) rfl) ?_
                refine localsQ_ord (by decide) (fun bs u W hbs hW hno hd => ?_) ?_
                · have h3 : u 3 = _ := hd 3 (by kernel_rfl)
                  exact leaves_val rfl (v := .pointer (some ⟨gm, 0, none⟩)) (by go_simp) rfl
                refine localsQ_ord (by decide) (fun bs u W hbs hW hno hd => ?_) ?_
                · have h4 : u 4 = _ := hd 4 (by kernel_rfl)
                  have hb1 : bs[1]? = some false := bs2_false hbs (fun hb => nomatch ((Eq.trans (by kernel_rfl) (hno 0 6 _ (hW.2.2 hb) rfl rfl)) : true = false))
                  have own1 := hW.2.1 hb1
                  have q0 := own1.cellAt 0 (by omega); have q1 := own1.cellAt 1 (by omega); have q2 := own1.cellAt 2 (by omega)
                  rw [toksCells_cons] at q0 q1 q2
                  simp only [List.getElem?_cons_zero, List.getElem?_cons_succ] at q0 q1 q2
                  exact leaves_val rfl (v := .agg #[.string (ofL d0.id), .slice d0.A d0.l.length d0.c, .string (ofL d0.tag)]) (by go_simp) rfl
                refine localsQ_turnT 0 rfl (fun q hq => cs_inj (cs := [6, 7]) (by decide) 0 q _ rfl hq) (fun bs u W hbs hb0 hW hd hcs => ?_) ?_
                · have h5 : u 5 = _ := hd 5 (by kernel_rfl)
                  have hset : (bs.set 0 true)[0]? = some true := List.getElem?_set_self (by rw [hbs]; decide)
                  have hs1 : (bs.set 0 true)[1]? = bs[1]? := List.getElem?_set_ne (by decide)
                  refine turnOk_val (v := .slice (some ⟨W.heap.size, 0, none⟩) 1 1) (w' := W.alloc (.cells #[.string (ofL d0.id), .slice d0.A d0.l.length d0.c, .string (ofL d0.tag)] 24)) rfl (by go_simp) ⟨hW.1.up ((Ext.rfl' W).al _), fun hb => own_ext (hW.2.1 (by rw [← hs1]; exact hb)) (fun j _ hj => ((Ext.rfl' W).al _).block j hj), fun _ => hset⟩ ⟨_, rfl, hset, fun _ => Arr.new W _ (tokCells d0)⟩ ?_
                  · intro k h
                    match k, h with
                    | 0, h => exact h
                    | 1, h => exact h
                    | 2, h => exact h
                    | 3, h => exact h
                    | 4, h => exact h
                    | 5, h => exact h
                    | 6, ⟨b5, h1, h2, _⟩ => rw [hb0] at h2; cases h2
                    | 7, ⟨h1, _⟩ => have h9 := hW.2.2 h1; rw [hb0] at h9; cases h9
                    | 8, ⟨h1, _⟩ => have h9 := hW.2.2 h1; rw [hb0] at h9; cases h9
                    | 9, h => exact h
                    | 10, h => exact h
                    | 11, h => exact h
                    | 12, h => exact h
                    | 13, h => exact h
                    | 14, h => exact h
                    | (k + 15), h => exact h
                refine localsQ_turnT 1 rfl (fun q hq => cs_inj (cs := [6, 7]) (by decide) 1 q _ rfl hq) (fun bs u W hbs hb0 hW hd hcs => ?_) ?_
                · have h2 : u 2 = _ := hd 2 (by kernel_rfl)
                  have h6 := hd 6 (by kernel_rfl)
                  have hset : (bs.set 1 true)[1]? = some true := List.getElem?_set_self (by rw [hbs]; decide)
                  have hs0 : (bs.set 1 true)[0]? = bs[0]? := List.getElem?_set_ne (by decide)
                  have own1 := hW.2.1 hb0
                  obtain ⟨b5, e6, hb6, hc6⟩ := h6
                  have hA6 := hc6 hb0
                  refine turnOk_app (ad := ⟨b5, 0, none⟩) (c := 1) (news := tokCells d0) Tryd.elemTok rfl _ _ rfl own1 1 (by go_simp) (by go_simp) rfl ?_ ?_ (by omega) (by omega) hW.1.cur.lt (fun v' w' own2 hg2 => ⟨⟨hW.1.kept own1 hg2, fun hb => (by rw [hset] at hb; cases hb), fun _ => (by rw [hs0]; exact hb6)⟩, ⟨hset, ?_⟩, ?_⟩)
                  · intro j y hy
                    rw [WideShapes.add_plain, hA6.cell, Nat.zero_add]
                    exact hy
                  · intro u hu; unfold tokCells at hu; simp at hu; rcases hu with rfl | rfl | rfl <;> rfl
                  · obtain ⟨A9, c9, rfl⟩ := own_slice own2
                    have hA := hW.1.kept own1 hg2
                    have ho := Rd.own own2 (by decide)
                    refine ⟨A9, c9, rfl, ⟨?_, fun d hd => ?_⟩⟩
                    · have h : toksCells (d0 :: D' ++ [d0]) = toksCells (d0 :: D') ++ tokCells d0 := by rw [toksCells_append]; simp [toksCells]
                      rw [h, HL2.out]; exact ho
                    · rcases List.mem_append.1 hd with hd | hd
                      · exact own_links (hA.dlk d hd) rfl
                      · rw [List.mem_singleton.1 hd]; exact own_links (hA.dlk d0 List.mem_cons_self) rfl
                  · intro k h
                    match k, h with
                    | 0, h => exact h
                    | 1, h => exact h
                    | 2, h => exact h
                    | 3, h => exact h
                    | 4, h => exact h
                    | 5, h => exact h
                    | 6, ⟨b5, h1, h2, _⟩ => exact ⟨b5, h1, (by rw [hs0]; exact h2), fun hb => (by rw [hset] at hb; cases hb)⟩
                    | 7, ⟨h1, _⟩ => rw [hb0] at h1; cases h1
                    | 8, ⟨h1, _⟩ => rw [hb0] at h1; cases h1
                    | 9, h => exact h
                    | 10, h => exact h
                    | 11, h => exact h
                    | 12, h => exact h
                    | 13, h => exact h
                    | 14, h => exact h
                    | (k + 15), h => exact h
                refine localsQ_ord (by decide) (fun bs u W hbs hW hno hd => ?_) ?_
                · have h1 : u 1 = _ := hd 1 (by kernel_rfl)
                  have h7 := hd 7 (by kernel_rfl)
                  obtain ⟨hb7, A9, c9, e7, t7⟩ := h7
                  have lX := own_links hW.1.lnk rfl
                  dsimp only at lX
                  rw [HNX.out] at lX
                  exact leaves_call rfl (f := 17) (args := #[.agg #[.string (ofL xi), .slice XA nx xc, .string (ofL xt)], .slice A9 (nD + 1 + 1) c9]) (by go_simp) ((cB.out _ (d0 :: D' ++ [d0]) W (hT.ext hW.1.ext) lX t7 HOD2.out (by rw [HL2.out]; omega)).mono (fun e9 W9 ⟨v9, h1, h2, h3⟩ => ⟨v9, h1, h2, hb7, h3⟩))
                refine localsQ_ord (by decide) (fun bs u W hbs hW hno hd => ?_) ?_
                · have h0 : u 0 = _ := hd 0 (by kernel_rfl)
                  have h8 := hd 8 (by kernel_rfl)
                  obtain ⟨hb8, A, c, A', c', ts, e4, l4, t4, m4⟩ := h8
                  obtain ⟨hr, ho, hl⟩ := HR31.out ts m4
                  exact leaves_call rfl (f := 39) (args := #[.string (ofL k), .agg #[.string (ofL xi), .slice A nx c, .string (ofL xt), .slice A' ts.length c']]) (by go_simp) ((cV.out A c A' c' ts W (hT.ext hW.1.ext) l4 t4 ho hl).mono (fun e9 W9 ⟨v9, h1, h2, h3⟩ => ⟨.tuple #[v9, .int .i64 GE], by rw [h1, hr], h3, v9, rfl⟩))
                refine localsQ_ord (by decide) (fun bs u W hbs hW hno hd => ?_) ?_
                · have h9 := hd 9 (by kernel_rfl)
                  exact leaves_val rfl (v := u 9) (by go_simp) h9
                refine localsQ_ord (by decide) (fun bs u W hbs hW hno hd => ?_) ?_
                · have h10 := hd 10 (by kernel_rfl)
                  obtain ⟨t, e5⟩ := h10
                  exact leaves_val rfl (v := t) (by go_simp) trivial
                refine localsQ_ord (by decide) (fun bs u W hbs hW hno hd => ?_) ?_
                · have h10 := hd 10 (by kernel_rfl)
                  obtain ⟨t, e5⟩ := h10
                  exact leaves_val rfl (v := .int .i64 GE) (by go_simp) rfl
                refine localsQ_ord (by decide) (fun bs u W hbs hW hno hd => ?_) ?_
                · have h11 := hd 11 (by kernel_rfl)
                  exact leaves_val rfl (v := u 11) (by go_simp) h11
                refine localsQ_ord (by decide) (fun bs u W hbs hW hno hd => ?_) localsQ_nil
                · have h12 : u 12 = _ := hd 12 (by kernel_rfl)
                  exact leaves_val rfl (v := .int .i64 GE) (by go_simp) rfl
              · intro u31 W31 E31 hV
                have h14 : u31 14 = _ := hV 14 (by decide)
                clear hV
                have F31 := E31.1.ext
                have hG := HG2.out
                clear E31 cB cV A30 hrow HR31 HG2 HOD2 HL2
                rcases hG with rfl | rfl
                · go_simp
                  go_wp2_with fail
                  refine (cW.out _ (hT.ext F31)).mono ?_
                  rintro e w9 ⟨rfl, E9⟩
                  go_wp2
                  go_ret
                  exact ⟨rfl, F31.tr E9⟩
                · go_simp
                  go_wp2_with fail
                  refine (cW.out _ (hT.ext F31)).mono ?_
                  rintro e w9 ⟨rfl, E9⟩
                  go_wp2
                  go_ret
                  exact ⟨rfl, F31.tr E9⟩
theorem verifyHonest_walk2 (a : ByteArray) (v : Value) (la : List ActA) (w : World) (hT : Tab w) (_ha : a.size ≤ maxLen) (hr : Rd w w.heap.size 3 v la.length (actsCells la)) (_ : la.length ≤ maxLen) (hok : ∀ t ∈ la, ActOk w t) : Calls Tryd.prog 10 #[.string a, v] w fun e w' => e = .returned (.bool true) ∧ Ext w w' := by
  have q := verifyHonest_walk (toL a) v la w hT hr hok
  rw [ofL_toL] at q
  exact q
end Go.Proofs.YtejhiekikblbiaaDoor
