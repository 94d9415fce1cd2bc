/- Frames, taken: Take, All. Conditions: as each lemma says. -/
import Derived.Test.YtonjaaljnjjjcaaK9
set_option linter.unusedVariables false
set_option linter.unusedSimpArgs false
namespace Go.Proofs.Ytonjaaljnjjjcaa
open Go Go.RowKit

theorem takeF_cnt {l : List UInt8} (h : (takeF l).1 = 0) : (takeF l).2.2 ≤ l.length ∧ 8 ≤ (takeF l).2.2 ∧ (takeF l).2.1.length + 8 = (takeF l).2.2 := by
  unfold takeF at h ⊢
  split
  · rename_i h1
    rw [if_pos h1] at h
    exact absurd h h1
  · rename_i h1
    rw [if_neg h1] at h
    have h1 : (spanF l).1 = 0 := by simpa using h1
    obtain ⟨a, b⟩ := spanF_ok h1
    split
    · rename_i h2
      rw [if_pos h2] at h
      simp at h
    · refine ⟨a, by simp only; omega, ?_⟩
      simp
      omega
theorem takeF_le (l : List UInt8) : (takeF l).2.1.length ≤ l.length := by
  unfold takeF
  split
  · simp
  · split
    · simp
    · simp; omega

/-- Take. -/
theorem k82 {E w : World} {L I : List Chunk} {s : SV} {l : List UInt8} (hS : Sep E w L) (hr : RdB I s l) (hI : ∀ c ∈ I, c ∈ L) (hb : l.length ≤ 1000000000000) :
    Calls Pr 82 #[.slice s.a s.len s.cap] w fun e w' => ∃ (s1 s2 : SV) (C : List Chunk), Sep E w' (C ++ L) ∧ e = .returned (.tuple #[.slice s1.a s1.len s1.cap, .slice s2.a s2.len s2.cap, .int .i64 (takeF l).1]) ∧
      ((takeF l).1 = 0 → RdB C s1 (takeF l).2.1 ∧ RdB C s2 (l.drop (takeF l).2.2)) := by
  refine call82 ?_
  unfold ir82
  have hsz := hr.size
  have hcap := hr.cap
  refine (k135 hS hr hI hb).mono ?_
  rintro _ w1 ⟨s1, C1, rfl, hr1, hS1⟩
  refine ⟨_, _, _, rfl, brc_intro (fun h => ?_) (fun h => ?_)⟩
  · have h : (takeF l).1 ≠ 0 := by simpa using h
    exact ⟨SV.nil, SV.nil, C1, hS1, rfl, fun e => absurd e h⟩
  have h : (takeF l).1 = 0 := by simpa using h
  obtain ⟨a1, a2, a3⟩ := takeF_cnt h
  have hle := takeF_le l
  rw [h]
  generalize hk : (takeF l).2.2 = k at *
  refine ⟨fun _ => True, trivial, ⟨by omega, by omega⟩, ?_⟩
  refine (k88 hS1.drew ((hr1.mono hI).right C1) (by omega)).mono ?_
  rintro _ w2 ⟨s2, C2, rfl, ho2, hS2⟩
  refine ⟨s2, rfl, fun _ => True, trivial, ?_⟩
  have hd := hr.cut (l := k) (h := s.len) (m := s.cap) (by omega) (Nat.le_refl _) hcap (Nat.le_refl _)
  rw [List.take_of_length_le (by simp; omega)] at hd
  rw [Int.toNat_natCast]
  refine (k88 hS2 (((hd.mono hI).right C1).right C2) (by simp; omega)).mono ?_
  rintro _ w3 ⟨s3, C3, rfl, ho3, hS3⟩
  refine ⟨s3, rfl, fun _ => True, trivial, s2, s3, C3 ++ (C2 ++ C1), by simpa using hS3, rfl, fun _ => ⟨?_, ?_⟩⟩
  · exact ho2.rds.mono fun c hc => by simp [hc]
  · exact ho3.rds.mono fun c hc => by simp [hc]

end Go.Proofs.Ytonjaaljnjjjcaa
