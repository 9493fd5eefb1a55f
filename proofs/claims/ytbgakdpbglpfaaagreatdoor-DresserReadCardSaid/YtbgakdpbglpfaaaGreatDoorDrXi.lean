/- Read, walked. -/
import Derived.Test.YtbgakdpbglpfaaaGreatDoorDuS
namespace Go.Proofs.YtbgakdpbglpfaaaGreatDoor
open Go.RowKit
namespace Dr
set_option linter.unusedSimpArgs false
section
variable {w w' : World}
/-- what Read leaves -/
def ReadPost (file : ByteArray) (w : World) (e : Ending) (w' : World) : Prop :=
  ((readF file).1 ≠ 0 ∧ e = .returned (.tuple #[.pointer none, .int .i64 (readF file).1]) ∧ Below w.heap.size w w') ∨
  ((readF file).1 = 0 ∧ ∃ gb, e = .returned (.tuple #[.pointer (some ⟨gb, 0, none⟩), .int .i64 0]) ∧ Bk w w' gb (readF file).2)
theorem linesF_len (file : ByteArray) : (linesF file).length = Lib.countB (file.extract 0 (file.size - 1)) ⟨#[10]⟩ + 1 := Lib.splitB_all ⟨#[10]⟩ (by decide) 0 _ _ rfl
theorem number5_any (s : ByteArray) {m : Nat} {b : Bool} (h : numV (numOf (byts s) 5) = .tuple #[.int .i64 (m : Int), .bool b]) (w : World) :
    Calls Tryz.prog 84 #[.string s, .int .i64 5] w fun e w' => e = .returned (.tuple #[.int .i64 (m : Int), .bool b]) ∧ Below w.heap.size w w' := by
  rw [← h]
  exact number_any s 5 (by decide) w
theorem number4_any (s : ByteArray) {m : Nat} {b : Bool} (h : numV (numOf (byts s) 4) = .tuple #[.int .i64 (m : Int), .bool b]) (w : World) :
    Calls Tryz.prog 84 #[.string s, .int .i64 4] w fun e w' => e = .returned (.tuple #[.int .i64 (m : Int), .bool b]) ∧ Below w.heap.size w w' := by
  rw [← h]
  exact number_any s 4 (by decide) w
/-- the facts that Read's walk uses behind the two first tests -/
structure RF (w : World) (file cut f z q1 q2 : ByteArray) (LS : List ByteArray) (n k m s : Nat) (b1 b2 b3 b4 : Bool) : Prop where
  hs : Calls Tryz.prog 82 #[.string file, .string ⟨#[10]⟩] w fun e w' => e = .returned (.bool true) ∧ w' = w
  fcut : file.extract 0 (file.size - 1) = cut
  sp : Calls Tryz.prog 54 #[.string cut, .string ⟨#[10]⟩] w fun e w' => e = .returned (.slice (some ⟨w.heap.size, 0, none⟩) n n) ∧ w' = w.alloc (.cells (LS.map Value.string).toArray 9)
  c1 : ∀ w, Calls Tryz.prog 83 #[.string f, .string ⟨#[97, 105, 103, 114, 101, 116, 116, 101, 32]⟩] w fun e w' => e = .returned (.tuple #[.string q1, .bool b1]) ∧ w' = w
  c2 : ∀ w, Calls Tryz.prog 83 #[.string z, .string ⟨#[115, 117, 109, 32]⟩] w fun e w' => e = .returned (.tuple #[.string q2, .bool b2]) ∧ w' = w
  n1 : ∀ w, Calls Tryz.prog 84 #[.string q1, .int .i64 5] w fun e w' => e = .returned (.tuple #[.int .i64 (m : Int), .bool b3]) ∧ Below w.heap.size w w'
  n2 : ∀ w, Calls Tryz.prog 84 #[.string q2, .int .i64 4] w fun e w' => e = .returned (.tuple #[.int .i64 (s : Int), .bool b4]) ∧ Below w.heap.size w w'
  len : LS.length = n
  kn : n = k + 1
  hf : LS[0]? = some f
  hz : LS[k]? = some z
set_option maxRecDepth 100000 in
set_option maxHeartbeats 4000000 in
theorem read_nine {file cut f z q1 q2 : ByteArray} {LS : List ByteArray} {n k m s : Nat} {b1 b2 b3 b4 : Bool} (H : Hid (RF w file cut f z q1 q2 LS n k m s b1 b2 b3 b4)) (hsz : file.size ≤ 16000) (hpos : 1 ≤ file.size) (hn : n ≤ 16001)
    (hbad : ¬ (b1 = true ∧ b2 = true ∧ b3 = true ∧ b4 = true ∧ m + 1 = k ∧ s ≤ 9900)) :
    Calls Tryz.prog 47 #[.string file] w fun e w' => e = .returned (.tuple #[.pointer none, .int .i64 9]) ∧ Below w.heap.size w w' := by
  have hi : ¬ (16000 : Int) < file.size := by omega
  have hkn := H.out.kn
  have hcut := H.out.fcut
  have hk1 : (n : Int) - 1 = (k : Int) := by omega
  have hk2 : (k : Int) < n := by omega
  have hk3 : (0 : Int) ≤ k := by omega
  have hk4 : (0 : Int) < n := by omega
  cases b1 with
  | false =>
    clear hbad hkn
    go_enter Tryz.func47, Tryz.ntmps47
    go_wp2_with (first
      | (go_at_call 82; (with_reducible refine H.out.hs.mono ?_); rintro e w3 ⟨rfl, hw3⟩; replace hw3 := hw3.symm; subst hw3)
      | (go_at_call 54; (with_reducible refine H.out.sp.mono ?_)
         rintro e w1 ⟨rfl, hw1⟩
         obtain ⟨gl, hgl⟩ : ∃ gl, w.heap.size = gl := ⟨_, rfl⟩
         rw [hgl]
         have hG : Hid (Blk w1 gl 9 (LS.map Value.string).toArray) := by rw [Hid, hw1, ← hgl]; exact Blk.new _ _ _
         have hb1 : Hid (Below w.heap.size w w1) := by rw [Hid, hw1]; exact (Below.refl _ _).alloc (Nat.le_refl _) _
         have cf : w1.cell? ⟨gl, 0, none⟩ = some (.string f) := hG.out.at_ 0 (by simp [H.out.hf])
         have cz : w1.cell? ⟨gl, k, none⟩ = some (.string z) := hG.out.at_ k (by simp [H.out.hz])
         clear hw1 hgl)
      | (go_at_call 83; (with_reducible refine (H.out.c1 _).mono ?_); rintro e w3 ⟨rfl, hw3⟩; replace hw3 := hw3.symm; subst hw3)
      | (go_at_call 83; (with_reducible refine (H.out.c2 _).mono ?_); rintro e w3 ⟨rfl, hw3⟩; replace hw3 := hw3.symm; subst hw3)
      | (go_at_call 84; (with_reducible refine (H.out.n1 _).mono ?_); rintro e w2 ⟨rfl, hb2'⟩; have hb2 := Lib.hid hb2'; clear hb2')
      | (go_at_call 84; (with_reducible refine (H.out.n2 _).mono ?_); rintro e w3 ⟨rfl, hb3'⟩
         have hb3 := Lib.hid hb3'
         clear hb3'
         have cz3 : w3.cell? ⟨gl, k, none⟩ = some (.string z) := ((hG.out.callee hb2.out).callee hb3.out).at_ k (by simp [H.out.hz])))
    go_ret2
    exact ⟨rfl, (hb1.out.trans (hb2.out.mono hb1.out.size)).trans (hb3.out.mono (Nat.le_trans hb1.out.size hb2.out.size))⟩
  | true =>
  cases b2 with
  | false =>
    clear hbad hkn
    go_enter Tryz.func47, Tryz.ntmps47
    go_wp2_with (first
      | (go_at_call 82; (with_reducible refine H.out.hs.mono ?_); rintro e w3 ⟨rfl, hw3⟩; replace hw3 := hw3.symm; subst hw3)
      | (go_at_call 54; (with_reducible refine H.out.sp.mono ?_)
         rintro e w1 ⟨rfl, hw1⟩
         obtain ⟨gl, hgl⟩ : ∃ gl, w.heap.size = gl := ⟨_, rfl⟩
         rw [hgl]
         have hG : Hid (Blk w1 gl 9 (LS.map Value.string).toArray) := by rw [Hid, hw1, ← hgl]; exact Blk.new _ _ _
         have hb1 : Hid (Below w.heap.size w w1) := by rw [Hid, hw1]; exact (Below.refl _ _).alloc (Nat.le_refl _) _
         have cf : w1.cell? ⟨gl, 0, none⟩ = some (.string f) := hG.out.at_ 0 (by simp [H.out.hf])
         have cz : w1.cell? ⟨gl, k, none⟩ = some (.string z) := hG.out.at_ k (by simp [H.out.hz])
         clear hw1 hgl)
      | (go_at_call 83; (with_reducible refine (H.out.c1 _).mono ?_); rintro e w3 ⟨rfl, hw3⟩; replace hw3 := hw3.symm; subst hw3)
      | (go_at_call 83; (with_reducible refine (H.out.c2 _).mono ?_); rintro e w3 ⟨rfl, hw3⟩; replace hw3 := hw3.symm; subst hw3)
      | (go_at_call 84; (with_reducible refine (H.out.n1 _).mono ?_); rintro e w2 ⟨rfl, hb2'⟩; have hb2 := Lib.hid hb2'; clear hb2')
      | (go_at_call 84; (with_reducible refine (H.out.n2 _).mono ?_); rintro e w3 ⟨rfl, hb3'⟩
         have hb3 := Lib.hid hb3'
         clear hb3'
         have cz3 : w3.cell? ⟨gl, k, none⟩ = some (.string z) := ((hG.out.callee hb2.out).callee hb3.out).at_ k (by simp [H.out.hz])))
    go_ret2
    exact ⟨rfl, (hb1.out.trans (hb2.out.mono hb1.out.size)).trans (hb3.out.mono (Nat.le_trans hb1.out.size hb2.out.size))⟩
  | true =>
  cases b3 with
  | false =>
    clear hbad hkn
    go_enter Tryz.func47, Tryz.ntmps47
    go_wp2_with (first
      | (go_at_call 82; (with_reducible refine H.out.hs.mono ?_); rintro e w3 ⟨rfl, hw3⟩; replace hw3 := hw3.symm; subst hw3)
      | (go_at_call 54; (with_reducible refine H.out.sp.mono ?_)
         rintro e w1 ⟨rfl, hw1⟩
         obtain ⟨gl, hgl⟩ : ∃ gl, w.heap.size = gl := ⟨_, rfl⟩
         rw [hgl]
         have hG : Hid (Blk w1 gl 9 (LS.map Value.string).toArray) := by rw [Hid, hw1, ← hgl]; exact Blk.new _ _ _
         have hb1 : Hid (Below w.heap.size w w1) := by rw [Hid, hw1]; exact (Below.refl _ _).alloc (Nat.le_refl _) _
         have cf : w1.cell? ⟨gl, 0, none⟩ = some (.string f) := hG.out.at_ 0 (by simp [H.out.hf])
         have cz : w1.cell? ⟨gl, k, none⟩ = some (.string z) := hG.out.at_ k (by simp [H.out.hz])
         clear hw1 hgl)
      | (go_at_call 83; (with_reducible refine (H.out.c1 _).mono ?_); rintro e w3 ⟨rfl, hw3⟩; replace hw3 := hw3.symm; subst hw3)
      | (go_at_call 83; (with_reducible refine (H.out.c2 _).mono ?_); rintro e w3 ⟨rfl, hw3⟩; replace hw3 := hw3.symm; subst hw3)
      | (go_at_call 84; (with_reducible refine (H.out.n1 _).mono ?_); rintro e w2 ⟨rfl, hb2'⟩; have hb2 := Lib.hid hb2'; clear hb2')
      | (go_at_call 84; (with_reducible refine (H.out.n2 _).mono ?_); rintro e w3 ⟨rfl, hb3'⟩
         have hb3 := Lib.hid hb3'
         clear hb3'
         have cz3 : w3.cell? ⟨gl, k, none⟩ = some (.string z) := ((hG.out.callee hb2.out).callee hb3.out).at_ k (by simp [H.out.hz])))
    go_ret2
    exact ⟨rfl, (hb1.out.trans (hb2.out.mono hb1.out.size)).trans (hb3.out.mono (Nat.le_trans hb1.out.size hb2.out.size))⟩
  | true =>
  cases b4 with
  | false =>
    clear hbad hkn
    go_enter Tryz.func47, Tryz.ntmps47
    go_wp2_with (first
      | (go_at_call 82; (with_reducible refine H.out.hs.mono ?_); rintro e w3 ⟨rfl, hw3⟩; replace hw3 := hw3.symm; subst hw3)
      | (go_at_call 54; (with_reducible refine H.out.sp.mono ?_)
         rintro e w1 ⟨rfl, hw1⟩
         obtain ⟨gl, hgl⟩ : ∃ gl, w.heap.size = gl := ⟨_, rfl⟩
         rw [hgl]
         have hG : Hid (Blk w1 gl 9 (LS.map Value.string).toArray) := by rw [Hid, hw1, ← hgl]; exact Blk.new _ _ _
         have hb1 : Hid (Below w.heap.size w w1) := by rw [Hid, hw1]; exact (Below.refl _ _).alloc (Nat.le_refl _) _
         have cf : w1.cell? ⟨gl, 0, none⟩ = some (.string f) := hG.out.at_ 0 (by simp [H.out.hf])
         have cz : w1.cell? ⟨gl, k, none⟩ = some (.string z) := hG.out.at_ k (by simp [H.out.hz])
         clear hw1 hgl)
      | (go_at_call 83; (with_reducible refine (H.out.c1 _).mono ?_); rintro e w3 ⟨rfl, hw3⟩; replace hw3 := hw3.symm; subst hw3)
      | (go_at_call 83; (with_reducible refine (H.out.c2 _).mono ?_); rintro e w3 ⟨rfl, hw3⟩; replace hw3 := hw3.symm; subst hw3)
      | (go_at_call 84; (with_reducible refine (H.out.n1 _).mono ?_); rintro e w2 ⟨rfl, hb2'⟩; have hb2 := Lib.hid hb2'; clear hb2')
      | (go_at_call 84; (with_reducible refine (H.out.n2 _).mono ?_); rintro e w3 ⟨rfl, hb3'⟩
         have hb3 := Lib.hid hb3'
         clear hb3'
         have cz3 : w3.cell? ⟨gl, k, none⟩ = some (.string z) := ((hG.out.callee hb2.out).callee hb3.out).at_ k (by simp [H.out.hz])))
    go_ret2
    exact ⟨rfl, (hb1.out.trans (hb2.out.mono hb1.out.size)).trans (hb3.out.mono (Nat.le_trans hb1.out.size hb2.out.size))⟩
  | true =>
  by_cases hm : m + 1 = k
  · have hs : (9900 : Int) < s := by
      have : ¬ s ≤ 9900 := fun h => hbad ⟨rfl, rfl, rfl, rfl, hm, h⟩
      omega
    have hm2 : (m : Int) = (k : Int) - 1 := by omega
    clear hbad hkn hm
    go_enter Tryz.func47, Tryz.ntmps47
    go_wp2_with (first
      | (go_at_call 82; (with_reducible refine H.out.hs.mono ?_); rintro e w3 ⟨rfl, hw3⟩; replace hw3 := hw3.symm; subst hw3)
      | (go_at_call 54; (with_reducible refine H.out.sp.mono ?_)
         rintro e w1 ⟨rfl, hw1⟩
         obtain ⟨gl, hgl⟩ : ∃ gl, w.heap.size = gl := ⟨_, rfl⟩
         rw [hgl]
         have hG : Hid (Blk w1 gl 9 (LS.map Value.string).toArray) := by rw [Hid, hw1, ← hgl]; exact Blk.new _ _ _
         have hb1 : Hid (Below w.heap.size w w1) := by rw [Hid, hw1]; exact (Below.refl _ _).alloc (Nat.le_refl _) _
         have cf : w1.cell? ⟨gl, 0, none⟩ = some (.string f) := hG.out.at_ 0 (by simp [H.out.hf])
         have cz : w1.cell? ⟨gl, k, none⟩ = some (.string z) := hG.out.at_ k (by simp [H.out.hz])
         clear hw1 hgl)
      | (go_at_call 83; (with_reducible refine (H.out.c1 _).mono ?_); rintro e w3 ⟨rfl, hw3⟩; replace hw3 := hw3.symm; subst hw3)
      | (go_at_call 83; (with_reducible refine (H.out.c2 _).mono ?_); rintro e w3 ⟨rfl, hw3⟩; replace hw3 := hw3.symm; subst hw3)
      | (go_at_call 84; (with_reducible refine (H.out.n1 _).mono ?_); rintro e w2 ⟨rfl, hb2'⟩; have hb2 := Lib.hid hb2'; clear hb2')
      | (go_at_call 84; (with_reducible refine (H.out.n2 _).mono ?_); rintro e w3 ⟨rfl, hb3'⟩
         have hb3 := Lib.hid hb3'
         clear hb3'
         have cz3 : w3.cell? ⟨gl, k, none⟩ = some (.string z) := ((hG.out.callee hb2.out).callee hb3.out).at_ k (by simp [H.out.hz])))
    go_ret2
    exact ⟨rfl, (hb1.out.trans (hb2.out.mono hb1.out.size)).trans (hb3.out.mono (Nat.le_trans hb1.out.size hb2.out.size))⟩
  · have hm2 : ¬ (m : Int) = (k : Int) - 1 := by omega
    clear hbad hkn hm
    go_enter Tryz.func47, Tryz.ntmps47
    go_wp2_with (first
      | (go_at_call 82; (with_reducible refine H.out.hs.mono ?_); rintro e w3 ⟨rfl, hw3⟩; replace hw3 := hw3.symm; subst hw3)
      | (go_at_call 54; (with_reducible refine H.out.sp.mono ?_)
         rintro e w1 ⟨rfl, hw1⟩
         obtain ⟨gl, hgl⟩ : ∃ gl, w.heap.size = gl := ⟨_, rfl⟩
         rw [hgl]
         have hG : Hid (Blk w1 gl 9 (LS.map Value.string).toArray) := by rw [Hid, hw1, ← hgl]; exact Blk.new _ _ _
         have hb1 : Hid (Below w.heap.size w w1) := by rw [Hid, hw1]; exact (Below.refl _ _).alloc (Nat.le_refl _) _
         have cf : w1.cell? ⟨gl, 0, none⟩ = some (.string f) := hG.out.at_ 0 (by simp [H.out.hf])
         have cz : w1.cell? ⟨gl, k, none⟩ = some (.string z) := hG.out.at_ k (by simp [H.out.hz])
         clear hw1 hgl)
      | (go_at_call 83; (with_reducible refine (H.out.c1 _).mono ?_); rintro e w3 ⟨rfl, hw3⟩; replace hw3 := hw3.symm; subst hw3)
      | (go_at_call 83; (with_reducible refine (H.out.c2 _).mono ?_); rintro e w3 ⟨rfl, hw3⟩; replace hw3 := hw3.symm; subst hw3)
      | (go_at_call 84; (with_reducible refine (H.out.n1 _).mono ?_); rintro e w2 ⟨rfl, hb2'⟩; have hb2 := Lib.hid hb2'; clear hb2')
      | (go_at_call 84; (with_reducible refine (H.out.n2 _).mono ?_); rintro e w3 ⟨rfl, hb3'⟩
         have hb3 := Lib.hid hb3'
         clear hb3'
         have cz3 : w3.cell? ⟨gl, k, none⟩ = some (.string z) := ((hG.out.callee hb2.out).callee hb3.out).at_ k (by simp [H.out.hz])))
    go_ret2
    exact ⟨rfl, (hb1.out.trans (hb2.out.mono hb1.out.size)).trans (hb3.out.mono (Nat.le_trans hb1.out.size hb2.out.size))⟩
set_option maxRecDepth 100000 in
set_option maxHeartbeats 4000000 in
theorem read_seventeen {file cut f z q1 q2 pre : ByteArray} {LS : List ByteArray} {n k m s x : Nat} (H : Hid (RF w file cut f z q1 q2 LS n k m s true true true true)) (hsz : file.size ≤ 16000) (hpos : 1 ≤ file.size) (hn : n ≤ 16001) (hm : m + 1 = k) (hs : s ≤ 9900)
    (hz : z.size + 1 ≤ file.size) (hpre : file.extract 0 (file.size - z.size - 1) = pre) (hx : sumB (byts pre) = x) (hne : s ≠ x) :
    Calls Tryz.prog 47 #[.string file] w fun e w' => e = .returned (.tuple #[.pointer none, .int .i64 17]) ∧ Below w.heap.size w w' := by
  have hi : ¬ (16000 : Int) < file.size := by omega
  have hkn := H.out.kn
  have hcut := H.out.fcut
  have HSM : Hid (∀ w, Calls Tryz.prog 66 #[.string pre] w fun e w' => e = .returned (.int .i64 (x : Int)) ∧ Below w.heap.size w w') := by
    intro w
    rw [← hx]
    exact summed_any pre (by rw [← hpre, ByteArray.size_extract]; omega) w
  have hk1 : (n : Int) - 1 = (k : Int) := by omega
  have hk2 : (k : Int) < n := by omega
  have hk3 : (0 : Int) ≤ k := by omega
  have hk4 : (0 : Int) < n := by omega
  have hs2 : ¬ (9900 : Int) < s := by omega
  have hm2 : (m : Int) = (k : Int) - 1 := by omega
  obtain ⟨p1, hp1⟩ : ∃ p1 : Nat, file.size - z.size = p1 := ⟨_, rfl⟩
  obtain ⟨p, hp⟩ : ∃ p : Nat, p1 - 1 = p := ⟨_, rfl⟩
  have e1 : (file.size : Int) - (z.size : Int) = (p1 : Int) := by omega
  have e2 : (p1 : Int) - 1 = (p : Int) := by omega
  have e3 : (p : Int) ≤ file.size := by omega
  have hzi : (z.size : Int) + 1 ≤ file.size := by omega
  have hne2 : ¬ (s : Int) = (x : Int) := by omega
  rw [hp1, hp] at hpre
  clear hx hkn hm hs hne hp hp1
  go_enter Tryz.func47, Tryz.ntmps47
  go_wp2_with (first
    | (go_at_call 82; (with_reducible refine H.out.hs.mono ?_); rintro e w3 ⟨rfl, hw3⟩; replace hw3 := hw3.symm; subst hw3)
    | (go_at_call 54; (with_reducible refine H.out.sp.mono ?_)
       rintro e w1 ⟨rfl, hw1⟩
       obtain ⟨gl, hgl⟩ : ∃ gl, w.heap.size = gl := ⟨_, rfl⟩
       rw [hgl]
       have hG : Hid (Blk w1 gl 9 (LS.map Value.string).toArray) := by rw [Hid, hw1, ← hgl]; exact Blk.new _ _ _
       have hb1 : Hid (Below w.heap.size w w1) := by rw [Hid, hw1]; exact (Below.refl _ _).alloc (Nat.le_refl _) _
       have cf : w1.cell? ⟨gl, 0, none⟩ = some (.string f) := hG.out.at_ 0 (by simp [H.out.hf])
       have cz : w1.cell? ⟨gl, k, none⟩ = some (.string z) := hG.out.at_ k (by simp [H.out.hz])
       clear hw1 hgl)
    | (go_at_call 83; (with_reducible refine (H.out.c1 _).mono ?_); rintro e w3 ⟨rfl, hw3⟩; replace hw3 := hw3.symm; subst hw3)
    | (go_at_call 83; (with_reducible refine (H.out.c2 _).mono ?_); rintro e w3 ⟨rfl, hw3⟩; replace hw3 := hw3.symm; subst hw3)
    | (go_at_call 84; (with_reducible refine (H.out.n1 _).mono ?_); rintro e w2 ⟨rfl, hb2'⟩; have hb2 := Lib.hid hb2'; clear hb2')
    | (go_at_call 84; (with_reducible refine (H.out.n2 _).mono ?_); rintro e w3 ⟨rfl, hb3'⟩
       have hb3 := Lib.hid hb3'
       clear hb3'
       have cz3 : w3.cell? ⟨gl, k, none⟩ = some (.string z) := ((hG.out.callee hb2.out).callee hb3.out).at_ k (by simp [H.out.hz]))
    | (go_at_call 66; (with_reducible refine (HSM.out _).mono ?_); rintro e w4 ⟨rfl, hb4'⟩; have hb4 := Lib.hid hb4'; clear hb4')
    | (go_at_call 15; (with_reducible refine (bk_new (Below.refl _ _)).mono ?_); rintro e w5 ⟨gb, rfl, hB5', _⟩; have hB5 := Lib.hid hB5'; clear hB5'))
  go_ret2
  exact ⟨rfl, (((hb1.out.trans (hb2.out.mono hb1.out.size)).trans (hb3.out.mono (Nat.le_trans hb1.out.size hb2.out.size)))).trans (hb4.out.mono (Nat.le_trans (Nat.le_trans hb1.out.size hb2.out.size) hb3.out.size))⟩
set_option maxRecDepth 100000 in
set_option maxHeartbeats 4000000 in
theorem read_loop {file cut f z q1 q2 pre : ByteArray} {LS : List ByteArray} {n k m s : Nat} (T : Tabs w) (H : Hid (RF w file cut f z q1 q2 LS n k m s true true true true)) (hsz : file.size ≤ 16000) (hpos : 1 ≤ file.size) (hn : n ≤ 16001) (hm : m + 1 = k) (hs : s ≤ 9900)
    (hz : z.size + 1 ≤ file.size) (hpre : file.extract 0 (file.size - z.size - 1) = pre) (hx : sumB (byts pre) = s) {R : Int × Book} (hR : doAll ((LS.drop 1).take m) Book.new = R) :
    Calls Tryz.prog 47 #[.string file] w fun e w' => (R.1 ≠ 0 ∧ e = .returned (.tuple #[.pointer none, .int .i64 R.1]) ∧ Below w.heap.size w w') ∨
      (R.1 = 0 ∧ ∃ gb, e = .returned (.tuple #[.pointer (some ⟨gb, 0, none⟩), .int .i64 0]) ∧ Bk w w' gb R.2) := by
  have hi : ¬ (16000 : Int) < file.size := by omega
  have hkn := H.out.kn
  have hcut := H.out.fcut
  have HSM : Hid (∀ w, Calls Tryz.prog 66 #[.string pre] w fun e w' => e = .returned (.int .i64 (s : Int)) ∧ Below w.heap.size w w') := by
    intro w
    rw [← hx]
    exact summed_any pre (by rw [← hpre, ByteArray.size_extract]; omega) w
  have HT := Lib.hid T
  have HR := Lib.hid hR
  have hk1 : (n : Int) - 1 = (k : Int) := by omega
  have hk2 : (k : Int) < n := by omega
  have hk3 : (0 : Int) ≤ k := by omega
  have hk4 : (0 : Int) < n := by omega
  have hs2 : ¬ (9900 : Int) < s := by omega
  have hm2 : (m : Int) = (k : Int) - 1 := by omega
  have hk5 : (1 : Int) ≤ k := by omega
  have hk6 : (k : Int) ≤ n := by omega
  obtain ⟨p1, hp1⟩ : ∃ p1 : Nat, file.size - z.size = p1 := ⟨_, rfl⟩
  obtain ⟨p, hp⟩ : ∃ p : Nat, p1 - 1 = p := ⟨_, rfl⟩
  have e1 : (file.size : Int) - (z.size : Int) = (p1 : Int) := by omega
  have e2 : (p1 : Int) - 1 = (p : Int) := by omega
  have e3 : (p : Int) ≤ file.size := by omega
  have hzi : (z.size : Int) + 1 ≤ file.size := by omega
  rw [hp1, hp] at hpre
  clear hx hkn hs hp hp1 T hR
  go_enter Tryz.func47, Tryz.ntmps47
  go_wp2_with (first
    | (go_at_call 82; (with_reducible refine H.out.hs.mono ?_); rintro e w3 ⟨rfl, hw3⟩; replace hw3 := hw3.symm; subst hw3)
    | (go_at_call 54; (with_reducible refine H.out.sp.mono ?_)
       rintro e w1 ⟨rfl, hw1⟩
       obtain ⟨gl, hgl⟩ : ∃ gl, w.heap.size = gl := ⟨_, rfl⟩
       rw [hgl]
       have hG : Hid (Blk w1 gl 9 (LS.map Value.string).toArray) := by rw [Hid, hw1, ← hgl]; exact Blk.new _ _ _
       have hb1 : Hid (Below w.heap.size w w1) := by rw [Hid, hw1]; exact (Below.refl _ _).alloc (Nat.le_refl _) _
       have cf : w1.cell? ⟨gl, 0, none⟩ = some (.string f) := hG.out.at_ 0 (by simp [H.out.hf])
       have cz : w1.cell? ⟨gl, k, none⟩ = some (.string z) := hG.out.at_ k (by simp [H.out.hz])
       clear hw1 hgl)
    | (go_at_call 83; (with_reducible refine (H.out.c1 _).mono ?_); rintro e w3 ⟨rfl, hw3⟩; replace hw3 := hw3.symm; subst hw3)
    | (go_at_call 83; (with_reducible refine (H.out.c2 _).mono ?_); rintro e w3 ⟨rfl, hw3⟩; replace hw3 := hw3.symm; subst hw3)
    | (go_at_call 84; (with_reducible refine (H.out.n1 _).mono ?_); rintro e w2 ⟨rfl, hb2'⟩; have hb2 := Lib.hid hb2'; clear hb2')
    | (go_at_call 84; (with_reducible refine (H.out.n2 _).mono ?_); rintro e w3 ⟨rfl, hb3'⟩
       have hb3 := Lib.hid hb3'
       clear hb3'
       have cz3 : w3.cell? ⟨gl, k, none⟩ = some (.string z) := ((hG.out.callee hb2.out).callee hb3.out).at_ k (by simp [H.out.hz]))
    | (go_at_call 66; (with_reducible refine (HSM.out _).mono ?_); rintro e w4 ⟨rfl, hb4'⟩; have hb4 := Lib.hid hb4'; clear hb4')
    | (go_at_call 15; (with_reducible refine (bk_new (Below.refl _ _)).mono ?_); rintro e w5 ⟨gb, rfl, hB5', _⟩; have hB5 := Lib.hid hB5'; clear hB5'))
  rw [show k - 1 = m by omega]
  clear hm2
  go_loopw [105] (fun v wr => ∃ i : Nat, i ≤ m ∧ v = .int .i64 (i : Int) ∧ ∃ b, Bk w4 wr gb b ∧ Hid (doAll (((LS.drop 1).take m).drop i) b = R)) (fun v _ => m - (intOf v).toNat)
  case atStart => exact ⟨0, Nat.zero_le _, rfl, _, hB5.out, HR.out⟩
  case round =>
    obtain ⟨i, hin, rfl, b, hB, hD⟩ := hrel
    have hbe := hB.below
    by_cases hlt : i < m
    · have hlti : (i : Int) < m := by omega
      have hi0 : (0 : Int) ≤ i := by omega
      obtain ⟨x, hx⟩ : ∃ x, LS[1 + i]? = some x := ⟨_, List.getElem?_eq_getElem (by rw [H.out.len]; omega)⟩
      have cx : wr.cell? ⟨gl, 1 + i, none⟩ = some (.string x) := ((((hG.out.callee hb2.out).callee hb3.out).callee hb4.out).callee hbe).at_ (1 + i) (by simp [hx])
      have hdr : ((LS.drop 1).take m).drop i = x :: ((LS.drop 1).take m).drop (i + 1) := by
        have hl : i < ((LS.drop 1).take m).length := by rw [List.length_take, List.length_drop, H.out.len]; omega
        rw [List.drop_eq_getElem_cons hl]
        congr 1
        have h2 := List.getElem?_eq_getElem hl
        rw [List.getElem?_take_of_lt hlt, List.getElem?_drop, hx] at h2
        exact (Option.some.inj h2).symm
      rw [hdr] at hD
      obtain ⟨rest, hrest⟩ : ∃ q, ((LS.drop 1).take m).drop (i + 1) = q := ⟨_, rfl⟩
      rw [hrest] at hD
      have HRE := Lib.hid hrest
      have HDo := Lib.hid (bk_do (((((HT.out.below hb1.out)).below hb2.out).below hb3.out).below hb4.out) hB x rfl rfl)
      obtain ⟨E, hE⟩ : ∃ q, b.would x = q := ⟨_, rfl⟩
      rw [hE] at HDo
      by_cases h0 : E = 0
      · subst h0
        have HD2 : Hid (doAll rest (b.done x) = R) := by
          have := hD.out
          unfold doAll at this
          rw [if_pos hE] at this
          exact this
        clear hx hdr hrest hE hD
        go_wp2_with (go_at_call 20; (with_reducible refine HDo.out.mono ?_); rintro e w6 ⟨rfl, hB6⟩)
        go_roundw
        case rel => exact ⟨i + 1, by omega, by go_num, _, hB6, by rw [HRE.out]; exact HD2⟩
        case measure => simp only [intOf]; omega
      · have HD2 : Hid (R = (E, b)) := by
          have := hD.out
          unfold doAll at this
          rw [if_neg (by rw [hE]; exact h0), hE] at this
          exact this.symm
        have hE0 : (E == 0) = false := by simpa using h0
        have HE := Lib.hid h0
        clear hx hdr hrest hE hD
        go_wp2_with (go_at_call 20; (with_reducible refine HDo.out.mono ?_); rintro e w6 ⟨rfl, hB6⟩)
        go_ret2
        refine Or.inl ⟨by rw [HD2.out]; exact HE.out, by rw [HD2.out]; rfl, ?_⟩
        have g3 := (hb1.out.trans (hb2.out.mono hb1.out.size)).trans (hb3.out.mono (Nat.le_trans hb1.out.size hb2.out.size))
        have g4 := g3.trans (hb4.out.mono g3.size)
        exact g4.trans (hB6.below.mono g4.size)
    · obtain rfl : i = m := by omega
      have hlti : ¬ (i : Int) < i := by omega
      have HD2 : Hid (R = (0, b)) := by
        have := hD.out
        rw [List.drop_of_length_le (by rw [List.length_take]; omega)] at this
        exact this.symm
      have HB := Lib.hid hB
      clear hD hB
      go_wp2_with (fail)
      go_ret2
      refine Or.inr ⟨by rw [HD2.out], gb, rfl, ?_⟩
      have g3 := (hb1.out.trans (hb2.out.mono hb1.out.size)).trans (hb3.out.mono (Nat.le_trans hb1.out.size hb2.out.size))
      have g4 := g3.trans (hb4.out.mono g3.size)
      rw [HD2.out]
      exact HB.out.base g4
set_option maxRecDepth 100000 in
set_option maxHeartbeats 4000000 in
theorem read_file (T : Tabs w) (file : ByteArray) : Calls Tryz.prog 47 #[.string file] w (ReadPost file w) := by
  by_cases h1 : 16000 < file.size
  · have hR : readF file = (19, Book.new) := by unfold readF; rw [if_pos h1]
    have hi : (16000 : Int) < file.size := by omega
    go_enter Tryz.func47, Tryz.ntmps47
    go_wp2_with (fail)
    go_ret2
    exact Or.inl ⟨by rw [hR]; decide, by rw [hR]; rfl, Below.refl _ _⟩
  have hi : ¬ (16000 : Int) < file.size := by omega
  have HSF := Lib.hid (Tryz.strings_HasSuffix file ⟨#[10]⟩ w (by omega))
  by_cases h2 : Lib.hasSuffix (byts file) [10] = false
  · have hR : readF file = (18, Book.new) := by unfold readF; rw [if_neg h1, if_pos h2]
    rw [show Lib.hasSuffix file.data.toList (ByteArray.data ⟨#[10]⟩).toList = false from h2] at HSF
    go_enter Tryz.func47, Tryz.ntmps47
    go_wp2_with (go_at_call 82; (with_reducible refine HSF.out.mono ?_); rintro e w3 ⟨rfl, hw3⟩; replace hw3 := hw3.symm; subst hw3)
    go_ret2
    exact Or.inl ⟨by rw [hR]; decide, by rw [hR]; rfl, Below.refl _ _⟩
  have h2' : Lib.hasSuffix (byts file) [10] = true := by simpa using h2
  rw [show Lib.hasSuffix file.data.toList (ByteArray.data ⟨#[10]⟩).toList = true from h2'] at HSF
  have hpos : 1 ≤ file.size := by
    refine Nat.not_lt.1 fun h => h2 ?_
    have : byts file = [] := List.eq_nil_of_length_eq_zero (by rw [byts_len]; omega)
    rw [this]
    rfl
  obtain ⟨mx, hmx⟩ := T.1
  obtain ⟨cut, hcut⟩ : ∃ q, file.extract 0 (file.size - 1) = q := ⟨_, rfl⟩
  have hcs : cut.size ≤ 16000 := by rw [← hcut, ByteArray.size_extract]; omega
  have HSP := Tryz.strings_Split cut ⟨#[10]⟩ mx w (by omega) hmx (by decide)
  obtain ⟨LS, hLS⟩ : ∃ q, linesF file = q := ⟨_, rfl⟩
  have hlen := linesF_len file
  have hle := Lib.countB_le ⟨#[10]⟩ (by decide) cut.size cut (Nat.le_refl _)
  have hLS2 := hLS
  unfold linesF at hLS2
  rw [hcut] at hlen hLS2
  rw [hLS] at hlen
  rw [← hlen, hLS2] at HSP
  have hb : byts file = bodyL LS := by rw [← hLS, bodyL_glue, linesF_byts, glue_split, ← suffix_cut h2']
  obtain ⟨k, hk⟩ : ∃ k, LS.length = k + 1 := ⟨LS.length - 1, by omega⟩
  obtain ⟨f, hf⟩ : ∃ f, LS[0]? = some f := ⟨_, List.getElem?_eq_getElem (by omega)⟩
  obtain ⟨z, hz⟩ : ∃ z, LS[k]? = some z := ⟨_, List.getElem?_eq_getElem (by omega)⟩
  have hhd : LS.headD ⟨#[]⟩ = f := by rw [List.headD_eq_head?_getD, List.head?_eq_getElem?, hf]; rfl
  have hla : LS.getD (LS.length - 1) ⟨#[]⟩ = z := by rw [List.getD_eq_getElem?_getD, hk, Nat.add_sub_cancel, hz]; rfl
  have hzs : z.size + 1 ≤ file.size := by
    rw [← byts_len file, hb, bodyL_glue, ← byts_len z]
    have hm : byts z ++ [10] ∈ (LS.map byts).map (· ++ [10]) := List.mem_map.2 ⟨_, List.mem_map.2 ⟨z, List.mem_of_getElem? hz, rfl⟩, rfl⟩
    have := (List.sublist_flatten_of_mem hm).length_le
    simpa [glueL] using this
  obtain ⟨W, hW⟩ : ∃ W, fileW file = W := ⟨_, rfl⟩
  have hW2 := hW
  unfold fileW at hW2
  rw [hLS] at hW2
  simp only [] at hW2
  rw [hhd, hla] at hW2
  obtain ⟨b1, b2, om, os⟩ := W
  obtain ⟨w1, w2, w3, w4⟩ := FileW.mk.inj hW2
  obtain ⟨m, hm⟩ : ∃ m : Nat, om.getD 0 = m := ⟨_, rfl⟩
  obtain ⟨s, hs⟩ : ∃ s : Nat, os.getD 0 = s := ⟨_, rfl⟩
  have H : Hid (RF w file cut f z (bstr (Lib.trimPrefix (byts f) beginL)) (bstr (Lib.trimPrefix (byts z) endL)) LS LS.length k m s b1 b2 om.isSome os.isSome) := by
    refine ⟨HSF.out, hcut, HSP, fun w => ?_, fun w => ?_, fun w => number5_any _ ?_ w, fun w => number4_any _ ?_ w, rfl, hk, hf, hz⟩
    · rw [← w1]; exact Tryz.strings_CutPrefix f ⟨#[97, 105, 103, 114, 101, 116, 116, 101, 32]⟩ w
    · rw [← w2]; exact Tryz.strings_CutPrefix z ⟨#[115, 117, 109, 32]⟩ w
    · rw [byts_bstr, w3, numV_eq, hm]
    · rw [byts_bstr, w4, numV_eq, hs]
  have hok : fileOk file = (b1 && b2 && om.isSome && os.isSome && decide (m + 2 = LS.length) && decide (s ≤ 9900)) := by
    unfold fileOk
    rw [hW, hLS]
    simp only [hm, hs]
  by_cases hgood : b1 = true ∧ b2 = true ∧ om.isSome = true ∧ os.isSome = true ∧ m + 1 = k ∧ s ≤ 9900
  · obtain ⟨g1, g2, g3, g4, g5, g6⟩ := hgood
    rw [g1, g2, g3, g4] at H
    have hokT : fileOk file = true := by
      rw [hok, g1, g2, g3, g4, decide_eq_true (show m + 2 = LS.length by omega), decide_eq_true g6]
      rfl
    obtain ⟨pre, hpre⟩ : ∃ q, file.extract 0 (file.size - z.size - 1) = q := ⟨_, rfl⟩
    have hsF : sumF file = sumB (byts pre) := by
      unfold sumF
      rw [hLS, hla, ← hpre]
      congr 1
      show _ = (file.extract 0 (file.size - z.size - 1)).data.toList
      rw [ByteArray.data_extract, Array.toList_extract, List.extract_eq_take_drop]
      simp [byts]
    by_cases hsum : s = sumB (byts pre)
    · have hR : readF file = doAll ((LS.drop 1).take m) Book.new := by
        unfold readF
        rw [if_neg h1, if_neg h2, if_neg (by rw [hokT]; decide), if_neg (by rw [hW, hsF]; simp only [hs, ne_eq, Decidable.not_not]; exact hsum), hLS, List.dropLast_eq_take, List.length_drop, hk]
        congr 2
        omega
      exact (read_loop T H (by omega) hpos (by omega) g5 g6 hzs hpre hsum.symm hR.symm).mono fun e w' h => h
    · have hR : readF file = (17, Book.new) := by
        unfold readF
        rw [if_neg h1, if_neg h2, if_neg (by rw [hokT]; decide), if_pos (by rw [hW, hsF]; simp only [hs]; exact hsum)]
      refine (read_seventeen H (by omega) hpos (by omega) g5 g6 hzs hpre rfl hsum).mono ?_
      rintro e w' ⟨rfl, hb⟩
      exact Or.inl ⟨by rw [hR]; decide, by rw [hR], hb⟩
  · have hR : readF file = (9, Book.new) := by
      have : fileOk file = false := by
        rw [hok, Bool.eq_false_iff]
        intro h
        simp only [Bool.and_eq_true, decide_eq_true_eq] at h
        exact hgood ⟨h.1.1.1.1.1, h.1.1.1.1.2, h.1.1.1.2, h.1.1.2, by omega, h.2⟩
      unfold readF
      rw [if_neg h1, if_neg h2, if_pos this]
    refine (read_nine H (by omega) hpos (by omega) hgood).mono ?_
    rintro e w' ⟨rfl, hb⟩
    exact Or.inl ⟨by rw [hR]; decide, by rw [hR], hb⟩
end
end Dr
end Go.Proofs.YtbgakdpbglpfaaaGreatDoor
