/- Whatever a line tells, its deed does as the plain house does. -/
import Derived.Test.YtbgakdpbglpfaaaGreatDoorJdi
import Derived.Test.YtbgakdpbglpfaaaGreatDoorJca
namespace Go.Proofs.YtbgakdpbglpfaaaGreatDoor
open Go.RowKit
namespace Dr
def deedF : Deed → FuncId
  | .found _ => 213
  | .size _ _ => 215
  | .buy _ _ _ => 227
  | .order _ _ _ => 229
  | .back _ => 238
  | .moth _ _ => 243
  | .count _ _ _ => 244
  | .lock _ _ => 246
def deedT : Deed → TypeId
  | .found _ => 206
  | .size _ _ => 208
  | .buy _ _ _ => 210
  | .order _ _ _ => 212
  | .back _ => 214
  | .moth _ _ => 215
  | .count _ _ _ => 216
  | .lock _ _ => 218
def deedV : Deed → Value
  | .found d => .agg #[.string d]
  | .size d s => .agg #[.string d, .int .i64 (s : Int)]
  | .buy d s k => .agg #[.string d, .int .i64 (s : Int), .int .i64 (k : Int)]
  | .order o d n => .agg #[.string o, .string d, .int .i64 (n : Int)]
  | .back o => .agg #[.string o]
  | .moth d s => .agg #[.string d, .int .i64 (s : Int)]
  | .count d s k => .agg #[.string d, .int .i64 (s : Int), .int .i64 (k : Int)]
  | .lock d b => .agg #[.string d, .bool b]
section
variable {w : World} {V : Vals} {S : House} {n : Nat}
theorem deed_any (H : HouseAt w V S) (I : Inv n S) (D : Deed) (hd : DeedOk D) : Calls Tryz.prog (deedF D) #[deedV D, V .house] w (DoPost V S w (doP S D)) := by
  cases D with
  | found d =>
    by_cases h : (doP S (.found d)).1 ≠ 0
    · exact founding_no H d h
    · have h0 : lk d S.chests = none := by
        cases hk : lk d S.chests with
        | none => rfl
        | some c => exact absurd (by simp [doP, hk]) h
      have h4 : S.chests.length ≠ 4 := fun e => h (by simp [doP, h0, e])
      have := I.four
      exact founding_yes H d h0 (by omega)
  | size d s =>
    rcases open_cases V S d with ⟨E, hE, hp, h1, _, _⟩ | ⟨c, hk, hs, hor⟩
    · exact sizing_no H d s E hE hp (h1 s)
    · by_cases hno : c.sizes.contains s = true ∨ c.sizes.length = 5
      · exact sizing_not H I.ok d s hk hs hor hno
      · rw [not_or] at hno
        exact sizing_yes H I.ok d s hk hs hor (by simpa using hno.1) hno.2
  | buy d s k =>
    rcases place_cases V S d s with ⟨E, hE, hp, h1, _⟩ | ⟨c, hk, hs, hc⟩
    · exact buying_no H I.ok d s k E hE hp (h1 k)
    · exact buying_yes H I.ok d s k hd.2.2.2 hk hs hc
  | order o d m =>
    cases hu : hasB o S.used with
    | true => exact ordering_used H o d m hu
    | false =>
      rcases open_cases V S d with ⟨E, hE, hp, _, h1, _⟩ | ⟨c, hk, hs, hor⟩
      · exact ordering_shut H o d m hu E hE hp (h1 o m hu)
      · have hm : m ≤ 1000 := Nat.le_trans hd.2 (by decide)
        cases hf : fillP c.sizes c.stock m with
        | none => exact ordering_lost H I.ok o d m hm hu hk hs hor hf
        | some l => exact ordering_yes H I.ok o d m hm hu (I.used o hu) hk hs hor hf
  | back o =>
    cases hp : lk o S.out with
    | none => exact returning_none H o hp
    | some p =>
      obtain ⟨d, pk⟩ := p
      rcases open_cases V S d with ⟨E, hE, hor, _, _, h1⟩ | ⟨c, hk, hs, hor⟩
      · exact returning_shut H o d pk hp E hE hor (h1 o pk hp)
      · obtain ⟨c', e1, e2, e3, e4⟩ := I.out o _ hp
        obtain rfl : c = c' := by
          have h : lk d S.chests = some c' := e1
          rw [hk] at h
          injection h
        exact returning_go H I.ok I.nd o d pk hp hk hs e2 e3 e4 hor
  | moth d s =>
    rcases place_cases V S d s with ⟨E, hE, hp, _, h1⟩ | ⟨c, hk, hs, hc⟩
    · exact eating_no H I.ok d s E hE hp h1
    · exact eating_yes H I.ok d s hk hs hc
  | count d s k => exact counting_any H I.ok d s k
  | lock d b => exact locking_any H d b
end
end Dr
end Go.Proofs.YtbgakdpbglpfaaaGreatDoor
