/-
  Chapter 6's law BoxOther returns true; the laws with their arguments as the rows hand them. Condition: the package's table holds the constants.
-/
import Derived.Test.YtejhiekikblbiaaDoorBx6
import Derived.OpenShut
import Derived.ChangeArms
import Derived.ProofKit
namespace Go.Proofs.YtejhiekikblbiaaDoor
open Go.RowKit Go.ChangeShapes Go.WideShapes

/-- An append behind a guard that holds. -/
theorem wpl_app_at_g {P : Program} {t e : TypeId} {z : Value} {size bytes : Nat} (E : Elem P t e z size bytes) {w : World} {ops : Array Oper} {rest : List Oper} {o : Oper} {a : Act} {Q : Exit → Act → World → Prop} (hw : Region.wanted o (yielded ops a.tmps) = true) (s x : Operand) (ho : o.op = .call { callee := .builtin .append, args := #[s, x], argTypes := #[t, t] })
    {base : Nat} {v : Value} {n : Nat} {xs : List Value} (hown : w.ownsRow base e size v n xs) {ad : Addr} (m : Nat) {c : Nat} {news : List Value} (hs : a.eval s = v) (hx : a.eval x = .slice (some ad) m c)
    (hl : news.length = m * size) (hnews : ∀ j u, news[j]? = some u → w.cell? (ad.add j) = some u) (h1 : ∀ u ∈ news, u.oneCell' = true) (h63 : n + m ≤ 9223372036854775807) (hbytes : (n + m) * bytes ≤ 140737488355328) (hbase : base ≤ w.heap.size)
    (h : ∀ v' w', w'.ownsRow base e size v' (n + m) (xs ++ news) → w.grownBy w' v.ownBlock → wpList P ops Q rest (a.put o.dst v') w') : wpList P ops Q (o :: rest) a w := by
  unfold wpList
  rw [if_pos hw]
  exact .inl (wp_app E s x ho hown m hs hx hl hnews h1 h63 hbytes hbase fun v' w' h2 h3 => h v' w' h2 h3)
theorem clash_idx {xs : List (List UInt8)} (h : ClashM xs) : ∃ i j, j < i ∧ i < xs.length ∧ ClashAt xs i j := by
  obtain ⟨p, hp, q, hq, hne, hs⟩ := h
  obtain ⟨i, hi⟩ := List.mem_iff_getElem?.1 hp
  obtain ⟨j, hj⟩ := List.mem_iff_getElem?.1 hq
  have li : i < xs.length := (List.getElem?_eq_some_iff.1 hi).1
  have lj : j < xs.length := (List.getElem?_eq_some_iff.1 hj).1
  have ei : xs.getD i [] = p := by rw [List.getD_eq_getElem?_getD, hi]; rfl
  have ej : xs.getD j [] = q := by rw [List.getD_eq_getElem?_getD, hj]; rfl
  rcases Nat.lt_trichotomy i j with h | h | h
  · exact ⟨j, i, h, lj, by rw [ei, ej]; exact hs, by rw [ei, ej]; exact hne⟩
  · subst h
    rw [ei] at ej
    exact absurd ej hne
  · exact ⟨i, j, h, li, by rw [ei, ej]; exact hs.symm, by rw [ei, ej]; exact hne.symm⟩
theorem boxT_len {k s : List UInt8} (hs : s.length ≤ 5000) : ∀ p ∈ boxT k s, p.length ≤ 900000 := by
  have lF : (frameL [tagS]).length = 11 := len_tag
  have lT : (tagKL k).length = 32 := length_partsL _ _
  intro p hp
  simp only [boxT, pairT, List.mem_append, List.mem_cons, List.not_mem_nil, or_false] at hp
  rcases hp with (rfl | rfl) | rfl | rfl
  · unfold innerL; rw [List.length_append, length_hideL, lF]; omega
  · unfold outerL; rw [List.length_append, length_hideL, length_sumL]; omega
  · unfold innerL; rw [List.length_append, length_hideL, List.length_take]; omega
  · unfold outerL; rw [List.length_append, length_hideL, length_sumL]; omega

set_option maxRecDepth 100000 in
set_option maxHeartbeats 4000000 in
theorem boxOther_walk (k m t : List UInt8) (w : World) (hT : Tab w) : Calls Tryd.prog 4 #[.string (ofL k), .string (ofL m), .string (ofL t)] w fun e w' => e = .returned (.bool true) ∧ Ext w w' := by
  have cW := Kp.mk bxworks_any
  have zk : (ofL k).size = k.length := size_ofL _
  have zm : (ofL m).size = m.length := size_ofL _
  have zt : (ofL t).size = t.length := size_ofL _
  by_cases q1 : k.length = 32
  · have d1 : ((k.length : Int) != 32) = false := by simp; omega
    by_cases q2 : m.length = 32
    · have d2 : ((m.length : Int) != 32) = false := by simp; omega
      by_cases q3 : k = m
      · have d3 : (k == m) = true := by simp [q3]
        clear q1 q2 q3
        go_enter Tryd.func4, Tryd.ntmps4
        go_wp2_with fail
        refine (cW.out _ hT).mono ?_
        rintro e w9 ⟨rfl, E9⟩
        go_wp2
        go_ret
        exact ⟨rfl, E9⟩
      · have d3 : (k == m) = false := by simp [q3]
        by_cases q4 : 500 < t.length
        · clear q1 q2 q3
          go_enter Tryd.func4, Tryd.ntmps4
          go_wp2_with fail
          refine (cW.out _ hT).mono ?_
          rintro e w9 ⟨rfl, E9⟩
          go_wp2
          go_ret
          exact ⟨rfl, E9⟩
        · obtain ⟨B, hB⟩ : ∃ B, boxL k nonce0 t = B := ⟨_, rfl⟩
          have lB : B.length = t.length + 48 := by rw [← hB, length_boxL]; show 16 + _ + 32 = _; omega
          have hbody : B.take (B.length - 32) = boxBody k nonce0 t ∧ B.drop (B.length - 32) = hmacL (tagKL k) (boxBody k nonce0 t) := by
            have e : B.length - 32 = (boxBody k nonce0 t).length := by rw [lB, length_boxBody]; show _ = 16 + _; omega
            rw [e, ← hB]
            unfold boxL
            exact ⟨List.take_left' rfl, List.drop_left' rfl⟩
          have htag : hmacL (tagKL k) (B.take (B.length - 32)) = B.drop (B.length - 32) := by rw [hbody.1, hbody.2]
          have c1 := Kp.mk (show ∀ W, Tab W → Calls Tryd.prog 20 #[.string (ofL k), .string ⟨#[48, 49, 50, 51, 52, 53, 54, 55, 56, 57, 97, 98, 99, 100, 101, 102]⟩, .string (ofL t)] W fun e w' => e = .returned (.tuple #[.string (ofL B), .int .i64 0]) ∧ Ext W w' from fun W h => by
            have q := seal_box k nonce0 t W h (by omega)
            rw [sealR_ok rfl (by omega), hB] at q
            exact q)
          have hmid := openR_mid (k := m) (s := B) (by omega) (by omega)
          by_cases he : hmacL (tagKL m) (B.take (B.length - 32)) = B.drop (B.length - 32)
          · rw [if_pos he] at hmid
            obtain ⟨T, hTT⟩ : ∃ T, smixL (hideKL m) (B.take 16) ((B.take (B.length - 32)).drop 16) = T := ⟨_, rfl⟩
            rw [hTT] at hmid
            have c2 := Kp.mk (show ∀ W, Tab W → Calls Tryd.prog 21 #[.string (ofL m), .string (ofL B)] W fun e w' => e = .returned (.tuple #[.string (ofL T), .int .i64 0]) ∧ Ext W w' from fun W h => by
              have q := open_any m B W h (by omega)
              rw [hmid] at q
              exact q)
            have c3 := Kp.mk (show ∀ W : World, _ from fun W => rboxTexts_any k B W (by omega) (by omega) (by omega))
            have c4 := Kp.mk (show ∀ W : World, _ from fun W => rboxTexts_any m B W (by omega) (by omega) (by omega))
            have l1 : ((boxT k B).map Str).length = 4 := rfl
            have l2 : ((boxT m B).map Str).length = 4 := rfl
            have cC := Kp.mk (show ∀ v w, Rd w w.heap.size 1 v (4 + 4) ((boxT k B).map Str ++ (boxT m B).map Str) → Calls Tryd.prog 22 #[v] w fun e w' => e = .returned (.bool true) ∧ Ext w w' from fun v w hrd => by
              rw [← List.map_append] at hrd
              refine (clash_any (boxT k B ++ boxT m B) v w hrd ?_ (by simp [boxT, pairT])).mono ?_
              · intro p hp
                rcases List.mem_append.1 hp with hp | hp
                · exact boxT_len (by omega) p hp
                · exact boxT_len (by omega) p hp
              · rintro e w' ⟨b, rfl, hb, hE⟩
                obtain ⟨i, j, h1, h2, h3⟩ := clash_idx (box_other q1 q2 q3 htag he)
                exact ⟨by rw [hb i j h1 h2 h3], hE⟩)
            have n1 : ∀ u ∈ (boxT m B).map Str, u.oneCell' = true := oneCell_str _
            obtain ⟨xs, hxs⟩ : ∃ xs, (boxT k B).map Str = xs := ⟨_, rfl⟩
            obtain ⟨ys, hys⟩ : ∃ ys, (boxT m B).map Str = ys := ⟨_, rfl⟩
            rw [hxs] at c3 cC l1
            rw [hys] at c4 cC l2 n1
            clear hB lB hbody htag hmid he hTT hxs hys q1 q2 q3
            go_enter Tryd.func4, Tryd.ntmps4
            go_wp2_with fail
            refine (c1.out _ hT).mono ?_
            rintro e w1 ⟨rfl, E1⟩
            go_wp2_with fail
            refine (c2.out _ (hT.ext E1)).mono ?_
            rintro e w2 ⟨rfl, E2⟩
            have F2 := E1.tr E2
            clear E1 E2
            go_wp2_with fail
            refine (c3.out _).mono ?_
            rintro e w3 ⟨v3, rfl, own3, E3⟩
            have hsz3 := E3.size
            go_wp2_with fail
            refine (c4.out _).mono ?_
            rintro e w4 ⟨v4, rfl, own4, E4⟩
            have hsz4 := E4.size
            have own3' := own_ext own3 (fun j _ hj => E4.block j hj)
            obtain ⟨g4, cap4, rfl⟩ := ownsRow_succ own4
            have F4 := (F2.tr E3).tr E4
            have F2s := F2.size
            clear E3 E4 own3
            go_wp2_with (at_builtin; refine wpl_app_at_g Tryd.elemStr (by simp [Region.wanted, yielded, go_sem]) _ _ rfl own3' 4 rfl rfl l2 (own4.cells rfl) n1 (by omega) (by omega) (by omega) ?_; intro v5 w5 own5 hg5; have hrd := Rd.own own5 (by decide); have F5 := F4.own hg5 own3' (by omega); clear own3' own4 hg5 F4)
            refine (cC.out v5 w5 hrd).mono ?_
            rintro e w6 ⟨rfl, E6⟩
            go_wp2
            go_ret
            exact ⟨rfl, F5.tr E6⟩
          · rw [if_neg he] at hmid
            have c2 := Kp.mk (show ∀ W, Tab W → Calls Tryd.prog 21 #[.string (ofL m), .string (ofL B)] W fun e w' => e = .returned (.tuple #[.string ⟨#[]⟩, .int .i64 8]) ∧ Ext W w' from fun W h => by
              have q := open_any m B W h (by omega)
              rw [hmid] at q
              exact q)
            clear hB lB hbody htag hmid he q1 q2 q3
            go_enter Tryd.func4, Tryd.ntmps4
            go_wp2_with fail
            refine (c1.out _ hT).mono ?_
            rintro e w1 ⟨rfl, E1⟩
            go_wp2_with fail
            refine (c2.out _ (hT.ext E1)).mono ?_
            rintro e w2 ⟨rfl, E2⟩
            have F2 := E1.tr E2
            go_wp2_with fail
            refine (cW.out _ (hT.ext F2)).mono ?_
            rintro e w9 ⟨rfl, E9⟩
            go_wp2
            go_ret
            exact ⟨rfl, F2.tr E9⟩
    · have d2 : ((m.length : Int) != 32) = true := by simp; omega
      clear q1 q2
      go_enter Tryd.func4, Tryd.ntmps4
      go_wp2_with fail
      refine (cW.out _ hT).mono ?_
      rintro e w9 ⟨rfl, E9⟩
      go_wp2
      go_ret
      exact ⟨rfl, E9⟩
  · have d1 : ((k.length : Int) != 32) = true := by simp; omega
    clear q1
    go_enter Tryd.func4, Tryd.ntmps4
    go_wp2_with fail
    refine (cW.out _ hT).mono ?_
    rintro e w9 ⟨rfl, E9⟩
    go_wp2
    go_ret
    exact ⟨rfl, E9⟩

theorem boxOther_walk2 (a b c : ByteArray) (w : World) (hT : Tab w) (_ha : a.size ≤ maxLen) (_hb : b.size ≤ maxLen) (_hc : c.size ≤ maxLen) : Calls Tryd.prog 4 #[.string a, .string b, .string c] w fun e w' => e = .returned (.bool true) ∧ Ext w w' := by
  have q := boxOther_walk (toL a) (toL b) (toL c) w hT
  rw [ofL_toL, ofL_toL, ofL_toL] at q
  exact q
end Go.Proofs.YtejhiekikblbiaaDoor
