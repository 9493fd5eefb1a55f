/- What is read back by a rule, plainly; slices.Index. -/
import Derived.Test.YtdaaiockkbolbaaFits
import Derived.Lib.SlicesS
namespace Go.Proofs.Ytdaaiockkbolbaa
open Go.RowKit
theorem beq_str (x t : ByteArray) : (x.toList == t.toList) = decide (t = x) := by
  rw [ByteArray.toList_eq, ByteArray.toList_eq, Bool.eq_iff_iff, beq_iff_eq, decide_eq_true_iff]
  exact ⟨fun h => (bts_inj h).symm, fun h => by rw [h]⟩
theorem idx_step {ws : List ByteArray} {x t : ByteArray} {i : Nat} (h : ws[i]? = some t) : Lib.idxFromS (ws.drop i) x i = if t = x then (i : Int) else Lib.idxFromS (ws.drop (i + 1)) x (i + 1) := by
  obtain ⟨hi, rfl⟩ := List.getElem?_eq_some_iff.1 h
  rw [List.drop_eq_getElem_cons hi, Lib.idxFromS]
theorem idx_way (x : ByteArray) : ∀ (zs : List ByteArray) (i : Nat), Lib.idxFromS zs x i = -1 ∨ ∃ k : Nat, Lib.idxFromS zs x i = ((i + k : Nat) : Int) ∧ k < zs.length := by
  intro zs
  induction zs with
  | nil => intro i; exact Or.inl rfl
  | cons z zs ih =>
    intro i
    rw [Lib.idxFromS]
    split
    · exact Or.inr ⟨0, rfl, by simp⟩
    · rcases ih (i + 1) with h | ⟨k, h, hk⟩
      · exact Or.inl h
      · exact Or.inr ⟨k + 1, by rw [h]; congr 1; omega, by simp; omega⟩
/-- what is read back of m words of K letters -/
def backL (ws : List ByteArray) (K : Nat) : Nat → Word → Option Word
  | 0, _ => some []
  | m + 1, x => if Lib.idxOfS ws ⟨(x.take K).toArray⟩ < 0 then none else (backL ws K m (x.drop K)).map fun r => (97 + (Lib.idxOfS ws ⟨(x.take K).toArray⟩).toNat).toUInt8 :: r
theorem back_none {ws : List ByteArray} {K m : Nat} {x out : Word} {R : Option Word} (h : (backL ws K (m + 1) x).map (out ++ ·) = R) (hi : Lib.idxOfS ws ⟨(x.take K).toArray⟩ = -1) : R = none := by
  rw [← h, backL, if_pos (by rw [hi]; decide)]; rfl
theorem back_some {ws : List ByteArray} {K m k : Nat} {x out : Word} {R : Option Word} (h : (backL ws K (m + 1) x).map (out ++ ·) = R) (hi : Lib.idxOfS ws ⟨(x.take K).toArray⟩ = (k : Int)) : (backL ws K m (x.drop K)).map ((out ++ [(97 + k).toUInt8]) ++ ·) = R := by
  rw [← h, backL, if_neg (by rw [hi]; omega), hi, Option.map_map]
  congr 1
  funext r
  simp
/-- the word of the letters that are read back, and the error -/
def backR (ws : List ByteArray) (x : Word) : Option Word := backL ws (ws.headD ⟨#[]⟩).size (x.length / (ws.headD ⟨#[]⟩).size) x
def backE (ws : List ByteArray) (x : Word) : Int := if askE ws x ≠ 0 then askE ws x else if x.length % (ws.headD ⟨#[]⟩).size ≠ 0 then 5 else if (backR ws x).isNone then 12 else 0
def backV (ws : List ByteArray) (x : Word) : Word := if backE ws x = 0 then (backR ws x).getD [] else []
theorem askE_zero {ws : List ByteArray} {x : Word} (h : askE ws x = 0) : ruleE ws = 0 ∧ chkW x = 0 := by
  unfold askE at h
  split at h
  · rename_i h1; exact absurd h h1
  · rename_i h1; exact ⟨by simpa using h1, h⟩
theorem mod_facts (n K : Nat) : (n : Int) % (K : Int) = ((n % K : Nat) : Int) ∧ Int.tmod (n : Int) (K : Int) = ((n % K : Nat) : Int) := ⟨by omega, by rw [Int.tmod_eq_emod_of_nonneg (by omega)]; omega⟩
set_option maxRecDepth 100000 in
set_option maxHeartbeats 4000000 in
theorem index_any (A : Option Addr) (n c : Nat) (ws : List ByteArray) (x : ByteArray) (w : World) (B : Nat) (hr : RStrs w B A n ws) (hn : n ≤ 1000) :
    Calls Try.prog 78 #[.slice A n c, .string x] w fun e w' => e = .returned (.int .i64 (Lib.idxOfS ws x)) ∧ w' = w := by
  obtain ⟨R, hR⟩ : ∃ R, Lib.idxOfS ws x = R := ⟨_, rfl⟩
  have hRH := Lib.hid (show Lib.idxFromS (ws.drop 0) x 0 = R from hR)
  have hlen := Lib.hid hr.len
  rw [hR]
  clear hR
  go_enter Try.func78, Try.ntmps78
  go_wp2_with (fail)
  go_loopw [8] (fun v wr => ∃ i : Nat, i ≤ n ∧ v = .int .i64 i ∧ Hid (Lib.idxFromS (ws.drop i) x i = R) ∧ w = wr) (fun v _ => n - (intOf v).toNat)
  case atStart => exact ⟨0, by omega, rfl, hRH, rfl⟩
  case round =>
    obtain ⟨i, hin, rfl, hL, rfl⟩ := hrel
    by_cases hlt : i < n
    · have hlti : (i : Int) < n := by omega
      obtain ⟨ad, t, rfl, hadb, hcell, hwt⟩ := hr.at_ hlt
      have hst := idx_step (x := x) hwt.out
      rw [hL.out] at hst
      have hq := beq_str x t
      by_cases he : t = x
      · have hN := Lib.hid (show R = (i : Int) by rw [hst, if_pos he])
        rw [decide_eq_true he] at hq
        clear hst he
        go_wp2_with (fail)
        go_ret
        exact ⟨by rw [hN.out]; rfl, rfl⟩
      · have hN := Lib.hid (show Lib.idxFromS (ws.drop (i + 1)) x (i + 1) = R by rw [hst, if_neg he])
        rw [decide_eq_false he] at hq
        clear hst he
        go_wp2_with (fail)
        go_roundw
        case rel => exact ⟨i + 1, by omega, by go_num, hN, by first | rfl | trivial⟩
        case measure => simp only [intOf]; omega
    · have hlti : ¬ (i : Int) < n := by omega
      have hN := Lib.hid (show R = -1 by rw [← hL.out, List.drop_of_length_le (by rw [hlen.out]; omega)]; rfl)
      go_wp2_with (fail)
      go_ret
      exact ⟨by rw [hN.out]; rfl, rfl⟩
end Go.Proofs.Ytdaaiockkbolbaa
