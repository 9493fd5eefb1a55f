/- What Read returns of a file, and the file of what it returns: plain. -/
import Derived.Test.YtbgakdpbglpfaaaGreatDoorDuR
namespace Go.Proofs.YtbgakdpbglpfaaaGreatDoor
namespace Dr
set_option linter.unusedSimpArgs false
theorem linesF_byts (file : ByteArray) : (linesF file).map byts = splitL 10 (byts (file.extract 0 (file.size - 1))) := by
  unfold linesF
  rw [show (byts : ByteArray → List UInt8) = (·.data.toList) from rfl, Lib.splitB_data]
  exact splitK_one 10 _
theorem suffix_cut {file : ByteArray} (h : Lib.hasSuffix (byts file) [10] = true) : byts file = byts (file.extract 0 (file.size - 1)) ++ [10] := by
  unfold Lib.hasSuffix at h
  rw [List.isSuffixOf_iff_suffix] at h
  obtain ⟨t, ht⟩ := h
  have hl : file.size = t.length + 1 := by rw [← byts_len, ← ht, List.length_append]; rfl
  have : byts (file.extract 0 (file.size - 1)) = t := by
    show (file.extract 0 (file.size - 1)).data.toList = t
    rw [ByteArray.data_extract, Array.toList_extract, show file.data.toList = t ++ [10] from ht.symm, hl, List.extract_eq_take_drop]
    simp
  rw [this, ht]
theorem doAll_ok : ∀ (ls : List ByteArray) (b P : Book), doAll ls b = (0, P) → P.lines = b.lines ++ ls ∧ P = ls.foldl Book.done b
  | [], b, P, h => by
    injection h with _ h
    subst h
    exact ⟨(List.append_nil _).symm, rfl⟩
  | l :: ls, b, P, h => by
    unfold doAll at h
    by_cases h0 : b.would l = 0
    · rw [if_pos h0] at h
      obtain ⟨h1, h2⟩ := doAll_ok ls _ P h
      rw [done_ok h0, List.append_assoc] at h1
      exact ⟨h1, h2⟩
    · rw [if_neg h0] at h
      injection h with h _
      exact absurd h h0
theorem prefix_trim {f p : List UInt8} (h : Lib.hasPrefix f p = true) : f = p ++ Lib.trimPrefix f p := by
  unfold Lib.trimPrefix
  rw [if_pos h]
  unfold Lib.hasPrefix at h
  rw [List.isPrefixOf_iff_prefix] at h
  obtain ⟨t, rfl⟩ := h
  rw [List.drop_left]
theorem trim_prefix (p t : List UInt8) : Lib.hasPrefix (p ++ t) p = true ∧ Lib.trimPrefix (p ++ t) p = t := by
  have h : Lib.hasPrefix (p ++ t) p = true := by
    unfold Lib.hasPrefix
    rw [List.isPrefixOf_iff_prefix]
    exact ⟨t, rfl⟩
  refine ⟨h, ?_⟩
  unfold Lib.trimPrefix
  rw [if_pos h, List.drop_left]
/-- a list of two and more: the first, the middle, the last -/
theorem ends_of {α : Type} (l : List α) (h : 2 ≤ l.length) (a : α) : ∃ f m z, l = f :: (m ++ [z]) ∧ l.headD a = f ∧ l.getD (l.length - 1) a = z ∧ (l.drop 1).dropLast = m ∧ l.length = m.length + 2 := by
  cases l with
  | nil => simp at h
  | cons f l =>
    rcases List.eq_nil_or_concat l with rfl | ⟨m, z, rfl⟩
    · simp at h
    · refine ⟨f, m, z, by simp, rfl, ?_, by simp, by simp⟩
      simp [List.getD_eq_getElem?_getD]
/-- the file of a book that was read is the file -/
theorem read_back {file : ByteArray} {P : Book} (h : readF file = (0, P)) : bstr (fileL P.lines) = file := by
  unfold readF at h
  by_cases h1 : 16000 < file.size
  · rw [if_pos h1] at h; injection h with h _; cases h
  rw [if_neg h1] at h
  by_cases h2 : Lib.hasSuffix (byts file) [10] = false
  · rw [if_pos h2] at h; injection h with h _; cases h
  rw [if_neg h2] at h
  by_cases h3 : fileOk file = false
  · rw [if_pos h3] at h; injection h with h _; cases h
  rw [if_neg h3] at h
  by_cases h4 : (fileW file).sum.getD 0 ≠ sumF file
  · rw [if_pos h4] at h; injection h with h _; cases h
  rw [if_neg h4] at h
  have h2 : Lib.hasSuffix (byts file) [10] = true := by simpa using h2
  have h3 : fileOk file = true := by simpa using h3
  have h4 : (fileW file).sum.getD 0 = sumF file := by simpa using h4
  have hf := suffix_cut h2
  have hb : byts file = bodyL (linesF file) := by rw [bodyL_glue, linesF_byts, glue_split, ← hf]
  unfold fileOk at h3
  simp only [Bool.and_eq_true, decide_eq_true_eq] at h3
  obtain ⟨⟨⟨⟨⟨a1, a2⟩, a3⟩, a4⟩, a5⟩, a6⟩ := h3
  obtain ⟨f, m, z, e1, e2, e3, e4, e5⟩ := ends_of (linesF file) (by omega) ⟨#[]⟩
  rw [e4] at h
  unfold fileW at a1 a2 a3 a4 a5 a6 h4
  simp only [e2, e3] at a1 a2 a3 a4 a5 a6 h4
  unfold sumF at h4
  rw [e3] at h4
  obtain ⟨n, hn⟩ := Option.isSome_iff_exists.1 a3
  obtain ⟨s, hs⟩ := Option.isSome_iff_exists.1 a4
  rw [hn, Option.getD_some] at a5
  rw [hs, Option.getD_some] at a6 h4
  have hnm : n = m.length := by omega
  have p1 : byts f = beginL ++ Lib.decDigits m.length := by rw [← hnm, ← num_dec hn]; exact prefix_trim a1
  have p2 : byts z = endL ++ Lib.decDigits s := by rw [← num_dec hs]; exact prefix_trim a2
  obtain ⟨l1, l2⟩ := doAll_ok m _ P h
  have hl : P.lines = m := l1
  have hb2 : byts file = headL m.length ++ bodyL m ++ (byts z ++ [10]) := by
    rw [hb, e1, bodyL_glue, List.map_cons, glue_cons, List.map_append, glue_append, p1]
    unfold headL
    rw [bodyL_glue, List.map_singleton, glue_cons]
    simp [beginL, glueL]
  have hsz : (byts file).length = (headL m.length ++ bodyL m).length + (z.size + 1) := by rw [hb2]; simp only [List.length_append, byts_len, List.length_cons, List.length_nil]
  have htk : (byts file).take (file.size - z.size - 1) = headL m.length ++ bodyL m := by
    rw [byts_len] at hsz
    rw [hb2, List.take_left' (by omega)]
  rw [htk] at h4
  have : fileL P.lines = byts file := by
    rw [hl, hb2, p2]
    unfold fileL
    rw [← h4]
    simp [endL]
  rw [this]
  rfl
theorem bytes_ok {l : List UInt8} (h : (splitL 32 l).all wordB = true) : (10 : UInt8) ∉ l := by
  have hg := glue_split 32 l
  intro hm
  have h10 : (10 : UInt8) ∈ glueL 32 (splitL 32 l) := by rw [hg]; exact List.mem_append_left _ hm
  unfold glueL at h10
  rw [List.mem_flatten] at h10
  obtain ⟨w, hw, hx⟩ := h10
  rw [List.mem_map] at hw
  obtain ⟨v, hv, rfl⟩ := hw
  rcases List.mem_append.1 hx with hx | hx
  · have hv := List.all_eq_true.1 h v hv
    unfold wordB at hv
    rw [Bool.and_eq_true] at hv
    have := List.all_eq_true.1 hv.2 _ hx
    exact absurd this (by decide)
  · exact absurd (List.mem_singleton.1 hx) (by decide)
theorem would_bytes {B : Book} {line : ByteArray} (h : B.would line = 0) : (10 : UInt8) ∉ byts line := by
  have h1 : (readP line).1 = 0 := by
    unfold Book.would at h
    simp only [] at h
    by_cases h1 : (readP line).1 ≠ 0
    · rw [if_pos h1] at h; exact absurd h h1
    · simpa using h1
  refine bytes_ok ?_
  show (splitL 32 line.data.toList).all wordB = true
  unfold readP readL at h1
  by_cases h2 : 40 < line.data.toList.length
  · rw [if_pos h2] at h1; cases h1
  rw [if_neg h2] at h1
  simp only [] at h1
  by_cases h3 : (!(splitL 32 line.data.toList).all wordB) = true
  · rw [if_pos h3] at h1; cases h1
  · simpa using h3
theorem Rep.free {B : Book} (h : Rep B) : ∀ l ∈ B.lines, (10 : UInt8) ∉ byts l := by
  induction h with
  | new => exact fun l hl => by cases hl
  | done x h h0 ih =>
    rw [done_ok h0]
    intro l hl
    rcases List.mem_append.1 hl with hl | hl
    · exact ih l hl
    · rw [List.mem_singleton.1 hl]
      exact would_bytes h0
theorem doAll_append (ls vs : List ByteArray) (b c : Book) (h : doAll ls b = (0, c)) : doAll (ls ++ vs) b = doAll vs c := by
  induction ls generalizing b with
  | nil => injection h with _ h; rw [h]; rfl
  | cons l ls ih =>
    unfold doAll at h
    rw [List.cons_append, doAll]
    by_cases h0 : b.would l = 0
    · rw [if_pos h0] at h ⊢
      exact ih _ h
    · rw [if_neg h0] at h
      injection h with h _
      exact absurd h h0
theorem Rep.doAll {B : Book} (h : Rep B) : Dr.doAll B.lines Book.new = (0, B) := by
  induction h with
  | new => rfl
  | @done b x h h0 ih =>
    rw [done_ok h0, doAll_append _ _ _ _ ih]
    unfold Dr.doAll
    rw [if_pos h0]
    rfl
theorem sum_lt (bs : List UInt8) : sumB bs < 9901 := by
  refine snoc_ind (P := fun bs => sumB bs < 9901) (by decide) (fun w c _ => ?_) bs
  rw [sumB_snoc]
  exact Nat.mod_lt _ (by decide)
theorem byts_inj {a b : ByteArray} (h : byts a = byts b) : a = b := by
  cases a
  cases b
  congr
  exact Array.toList_inj.1 h
/-- the file of a book is read, and gives the book -/
theorem read_file_of {B : Book} (h : Rep B) (hI : BInv B) (hS : LShort B) : readF (bstr (fileL B.lines)) = (0, B) := by
  have hbb : byts (bstr (fileL B.lines)) = fileL B.lines := rfl
  obtain ⟨file, hfile⟩ : ∃ q, bstr (fileL B.lines) = q := ⟨_, rfl⟩
  rw [hfile] at hbb ⊢
  obtain ⟨s, hs⟩ : ∃ q, sumB (headL B.lines.length ++ bodyL B.lines) = q := ⟨_, rfl⟩
  have hs1 : s < 9901 := by rw [← hs]; exact sum_lt _
  have hn := hI.len
  -- the pieces
  have hfl : fileL B.lines = glueL 10 ((beginL ++ Lib.decDigits B.lines.length) :: (B.lines.map byts ++ [endL ++ Lib.decDigits s])) := by
    rw [glue_cons, glue_append, ← bodyL_glue, glue_cons]
    unfold fileL
    rw [hs]
    simp [headL, beginL, endL, glueL]
  have hfree : ∀ w ∈ ((beginL ++ Lib.decDigits B.lines.length) :: (B.lines.map byts ++ [endL ++ Lib.decDigits s])), (10 : UInt8) ∉ w := by
    have hd : ∀ n, (10 : UInt8) ∉ Lib.decDigits n := fun n hm => by
      have := List.all_eq_true.1 (dec_dig n).1 _ hm
      exact absurd this (by decide)
    intro w hw
    rcases List.mem_cons.1 hw with rfl | hw
    · intro hm
      rcases List.mem_append.1 hm with hm | hm
      · exact absurd hm (by decide)
      · exact hd _ hm
    · rcases List.mem_append.1 hw with hw | hw
      · obtain ⟨l, hl, rfl⟩ := List.mem_map.1 hw
        exact h.free l hl
      · rw [List.mem_singleton.1 hw]
        intro hm
        rcases List.mem_append.1 hm with hm | hm
        · exact absurd hm (by decide)
        · exact hd _ hm
  have hsuf : Lib.hasSuffix (byts file) [10] = true := by
    unfold Lib.hasSuffix
    rw [List.isSuffixOf_iff_suffix, hbb]
    unfold fileL
    exact ⟨_, rfl⟩
  have hcut := suffix_cut hsuf
  have hLS : (linesF file).map byts = (beginL ++ Lib.decDigits B.lines.length) :: (B.lines.map byts ++ [endL ++ Lib.decDigits s]) := by
    rw [linesF_byts]
    exact split_glue 10 hfree (by rw [← hcut, hbb, hfl])
  have hlen : (linesF file).length = B.lines.length + 2 := by
    have := congrArg List.length hLS
    rw [List.length_map] at this
    rw [this]
    simp
  obtain ⟨f, m, z, e1, e2, e3, e4, e5⟩ := ends_of (linesF file) (by omega) ⟨#[]⟩
  rw [e1, List.map_cons, List.map_append, List.map_singleton] at hLS
  obtain ⟨q1, q2⟩ := List.cons.inj hLS
  obtain ⟨q3, q4⟩ := List.append_inj' q2 rfl
  have q4 : byts z = endL ++ Lib.decDigits s := (List.cons.inj q4).1
  have hm : m = B.lines := by
    have : ∀ {a b : List ByteArray}, a.map byts = b.map byts → a = b := by
      intro a
      induction a with
      | nil => intro b hb; cases b with
        | nil => rfl
        | cons => cases hb
      | cons x a ih => intro b hb; cases b with
        | nil => cases hb
        | cons y b =>
          obtain ⟨u1, u2⟩ := List.cons.inj hb
          rw [byts_inj u1, ih u2]
    exact this q3
  obtain ⟨t1, t2⟩ := trim_prefix beginL (Lib.decDigits B.lines.length)
  obtain ⟨t3, t4⟩ := trim_prefix endL (Lib.decDigits s)
  have hW : fileW file = ⟨true, true, some B.lines.length, some s⟩ := by
    unfold fileW
    simp only [e2, e3]
    rw [q1, q4, t1, t2, t3, t4, num_of_dec (k := 4) (by omega), num_of_dec (k := 3) (by omega)]
  have hsz : file.size = (headL B.lines.length ++ bodyL B.lines).length + (z.size + 1) := by
    rw [← byts_len, hbb, ← byts_len z, q4]
    unfold fileL
    rw [hs]
    simp [endL]
    omega
  have hsm : sumF file = s := by
    unfold sumF
    rw [e3, hbb, ← hs]
    congr 1
    unfold fileL
    rw [List.append_assoc, List.append_assoc, List.take_left' (by omega)]
  have hsize : ¬ 16000 < file.size := by
    have hb := bodyL_len B.lines hS
    have hz : z.size = 4 + (Lib.decDigits s).length := by
      rw [← byts_len, q4, List.length_append]; rfl
    have d1 := dec_len2 3 s (by omega)
    have d2 := dec_len2 4 B.lines.length (by omega)
    rw [hsz, List.length_append]
    unfold headL
    simp only [List.length_append, List.length_cons, List.length_nil]
    omega
  unfold readF
  rw [if_neg hsize, if_neg (by rw [hsuf]; decide), if_neg, if_neg, e4, hm, h.doAll]
  · rw [hW, hsm]; simp
  · unfold fileOk
    rw [hW, hlen]
    simp
    omega
end Dr
end Go.Proofs.YtbgakdpbglpfaaaGreatDoor
