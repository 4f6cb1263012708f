/-
  What an honest holder does, in plain words. No program in sight.
-/
import Derived.Test.YtejhiekikblbiaaGreatDoorNo3
import Derived.Test.YtejhiekikblbiaaGreatDoorMgL
namespace Go.Proofs.YtejhiekikblbiaaGreatDoor
open Go.RowKit

def notaryS : List UInt8 := [110, 111, 116, 97, 114, 121]
def cavS : List UInt8 := [99, 97, 118, 101, 97, 116, 32, 107, 101, 121, 32]
def nonceF : List UInt8 := [102, 101, 100, 99, 98, 97, 57, 56, 55, 54, 53, 52, 51, 50, 49, 48]
/-- A third party's caveat, by an honest holder. -/
structure ThirdOk (t : TokL) (s : List UInt8) (cs : List (List UInt8)) (ck S SB dt : List UInt8) : Prop where
  key : ck = cavS ++ s
  ticket : ticketR notaryS nonceN ck s = (S, 0)
  disch : dischargeR notaryS S cs = (⟨S, cs.map (fun c => (c, [])), dt⟩, 0)
  third : thirdR t S ck nonceF = (withL t (S, SB), 0)
  opens : openR (sealL t.tag) SB = (ck, 0)
  some : SB ≠ []
  last : dt = lastL ck S (cs.map fun c => (c, []))
  lenS : S.length ≤ 1000
  lenB : SB.length ≤ 1000
  lenD : dt.length = 32
theorem third_ex (t : TokL) (s : List UInt8) (cs : List (List UInt8)) (ht : t.links.length < 64) (hs : s.length ≤ 300) (hn : cs.length ≤ 5) (hc : ∀ c ∈ cs, c.length ≤ 300) : ∃ ck S SB dt, ThirdOk t s cs ck S SB dt := by
  have lck : (cavS ++ s).length ≤ 311 := by rw [List.length_append]; show 11 + _ ≤ _; omega
  have hrd := read_ticket (m := notaryS) (n := nonceN) (k := cavS ++ s) (t := s) rfl (by omega)
  have htk := ticketR_ok (m := notaryS) (n := nonceN) (k := cavS ++ s) (t := s) rfl (by omega)
  have lS := length_boxL notaryS nonceN (frameL [cavS ++ s, s])
  rw [len_two] at lS
  have hnn : nonceN.length = 16 := rfl
  have hnf : nonceF.length = 16 := rfl
  generalize boxL notaryS nonceN (frameL [cavS ++ s, s]) = S at *
  have hok := addsL_ok cs ⟨S, [], rootL (cavS ++ s) S⟩ (by simp; omega) (fun c hx => by have := hc c hx; omega)
  obtain ⟨hd1, hd2, hd3⟩ := addsL_tag (cavS ++ s) S cs ⟨S, [], rootL (cavS ++ s) S⟩ rfl rfl hok
  have hdis : dischargeR notaryS S cs = addsL ⟨S, [], rootL (cavS ++ s) S⟩ cs := by rw [dischargeR_ok (by rw [hrd]), hrd]
  obtain ⟨D, hD⟩ : ∃ D, addsL ⟨S, [], rootL (cavS ++ s) S⟩ cs = D := ⟨_, rfl⟩
  rw [hD] at hok hd1 hd2 hd3 hdis
  obtain ⟨⟨di, dl, dt⟩, dx⟩ := D
  dsimp only at hok hd1 hd2 hd3
  subst hok hd1
  simp only [List.nil_append] at hd2
  subst hd2
  have hb := length_boxL (sealL t.tag) nonceF (cavS ++ s)
  refine ⟨cavS ++ s, di, boxL (sealL t.tag) nonceF (cavS ++ s), dt, rfl, htk, hdis, ?_, open_box _ _ _ rfl (by omega), ?_, hd3, by omega, by omega, by rw [hd3]; exact length_lastL _ _ _⟩
  · rw [thirdR_seal ht (by omega)]
    rw [sealR_ok rfl (by omega), if_pos rfl]
  · intro h
    rw [h] at hb
    simp at hb
theorem ThirdOk.hon {k id : List UInt8} {t : TokL} {m : List (List UInt8 × TokL)} {o : List (List UInt8)} {s : List UInt8} {cs : List (List UInt8)} {ck S SB dt : List UInt8} (h : ThirdOk t s cs ck S SB dt) (hh : Hon k id t m o) :
    Hon k id (withL t (S, SB)) (m ++ [(ck, ⟨S, cs.map (fun c => (c, [])), dt⟩)]) o :=
  Hon.third SB ck ⟨S, cs.map (fun c => (c, [])), dt⟩ hh h.opens h.some h.last (fun x hx => by
    obtain ⟨c, _, rfl⟩ := List.mem_map.1 hx
    rfl)
end Go.Proofs.YtejhiekikblbiaaGreatDoor
