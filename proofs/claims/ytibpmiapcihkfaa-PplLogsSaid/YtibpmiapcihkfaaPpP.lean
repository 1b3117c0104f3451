/-
  What was encoded is decoded; a head or a part of which a byte is another one is that of no record. No program in sight.
-/
import Derived.Test.YtibpmiapcihkfaaPpM
import Derived.Test.YtibpmiapcihkfaaMathD
namespace Go.Proofs.Ytibpmiapcihkfaa
set_option linter.all false

theorem hd_split (r : Rec) : ∃ ys, hdBytes r = magicP ++ (leBytes r.stripe.toNat 4 ++ (leBytes r.place.toNat 4 ++ (leBytes (crc 0 r.part) 4 ++ ys))) :=
  ⟨List.replicate (124 - (preP r 3).length) 0 ++ leBytes (crc 0 (bodyP r)) 4, by simp [hdBytes, bodyP, padL, preP, fieldsP]⟩
theorem num4_at (xs ys : List UInt8) (x o : Nat) (hx : x < 4294967296) (ho : xs.length = o) : num4 (xs ++ (leBytes x 4 ++ ys)) o = x := by
  unfold num4
  subst ho
  have h := drop_take_mid xs (leBytes x 4) ys
  rw [leBytes_len] at h
  rw [h, leNum_leBytes]
  omega
theorem recP_hd (r : Rec) (h : MayP r) : recP (hdBytes r) r.part = r := by
  obtain ⟨h1, h2, h3, h4, _⟩ := h
  obtain ⟨ys, e⟩ := hd_split r
  have a := num4_at magicP (leBytes r.place.toNat 4 ++ (leBytes (crc 0 r.part) 4 ++ ys)) r.stripe.toNat 4 (by omega) rfl
  have b := num4_at (magicP ++ leBytes r.stripe.toNat 4) (leBytes (crc 0 r.part) 4 ++ ys) r.place.toNat 8 (by omega) (by simp [magicP, leBytes_len])
  rw [List.append_assoc] at b
  rw [← e] at a b
  unfold recP
  rw [a, b]
  obtain ⟨s, p, x⟩ := r
  simp only [Rec.mk.injEq, and_true]
  exact ⟨Int.toNat_of_nonneg h1, Int.toNat_of_nonneg h3⟩
theorem dec_hd (r : Rec) (h : mayB r = true) : decOKP (hdBytes r) r.part = true ∧ decR (hdBytes r) r.part = r ∧ decEP (hdBytes r) r.part = 0 := by
  have e := recP_hd r (of_decide_eq_true h)
  have k : decOKP (hdBytes r) r.part = true := by unfold decOKP; rw [e, h]; simp
  exact ⟨k, by rw [decR_ok k, e], decEP_ok k⟩
theorem hd_take (r : Rec) : (hdBytes r).take 124 = bodyP r := by
  unfold hdBytes
  rw [List.take_left' (bodyP_len r)]
theorem hd_drop (r : Rec) : (hdBytes r).drop 124 = leBytes (crc 0 (bodyP r)) 4 := by
  unfold hdBytes
  rw [List.drop_left' (bodyP_len r)]
theorem head_turned (r : Rec) (i : Nat) (hi : i < 128) (x : UInt8) (hx : x ≠ (hdBytes r)[i]'(by rw [hdBytes_len]; exact hi)) (part : List UInt8) : decOKP ((hdBytes r).set i x) part = false := by
  cases hk : decOKP ((hdBytes r).set i x) part with
  | false => rfl
  | true =>
    exfalso
    unfold decOKP at hk
    simp only [Bool.and_eq_true, beq_iff_eq] at hk
    obtain ⟨_, he⟩ := hk
    generalize recP ((hdBytes r).set i x) part = q at he
    have h1 := hd_take q
    have h2 := hd_drop q
    rw [he] at h1 h2
    by_cases hlt : i < 124
    · rw [List.take_set, hd_take] at h1
      rw [List.drop_set, if_pos hlt, hd_drop, ← h1] at h2
      have h3 := leBytes_inj (n := 4) (by have := crc_lt 0 (bodyP r); omega) (by have := crc_lt 0 ((bodyP r).set i x); omega) h2
      refine crc_turned (bodyP r) i (by rw [bodyP_len]; exact hlt) x ?_ 0 h3
      intro e
      apply hx
      rw [e]
      have : (hdBytes r)[i]'(by rw [hdBytes_len]; exact hi) = (bodyP r)[i]'(by rw [bodyP_len]; exact hlt) := by
        simp only [hdBytes]
        rw [List.getElem_append_left]
      exact this.symm
    · rw [List.take_set_of_le (by omega), hd_take] at h1
      have h4 : (hdBytes r).set i x = hdBytes r := by
        rw [← he]
        unfold hdBytes
        rw [h1]
      have h5 := congrArg (fun l => l[i]?) h4
      simp only [List.getElem?_set, hdBytes_len, hi, if_true] at h5
      rw [List.getElem?_eq_getElem (by rw [hdBytes_len]; exact hi)] at h5
      injection h5 with h5
      exact hx h5
theorem part_turned (r : Rec) (i : Nat) (hi : i < r.part.length) (x : UInt8) (hx : x ≠ r.part[i]) : decOKP (hdBytes r) (r.part.set i x) = false := by
  cases hk : decOKP (hdBytes r) (r.part.set i x) with
  | false => rfl
  | true =>
    exfalso
    unfold decOKP at hk
    simp only [Bool.and_eq_true, beq_iff_eq] at hk
    obtain ⟨_, he⟩ := hk
    obtain ⟨ys, e1⟩ := hd_split r
    have hq : (recP (hdBytes r) (r.part.set i x)).part = r.part.set i x := rfl
    generalize recP (hdBytes r) (r.part.set i x) = q at *
    obtain ⟨zs, e2⟩ := hd_split q
    rw [hq] at e2
    rw [he, e1] at e2
    have h := congrArg (fun l => (l.drop 12).take 4) e2
    have k1 := fun a b c ys => drop_take_mid (magicP ++ (leBytes a 4 ++ leBytes b 4)) (leBytes c 4) ys
    simp only [List.append_assoc, List.length_append, leBytes_len, show magicP.length + (4 + 4) = 12 from rfl] at k1
    simp only [k1] at h
    have h3 := leBytes_inj (n := 4) (by have := crc_lt 0 r.part; omega) (by have := crc_lt 0 (r.part.set i x); omega) h
    exact crc_turned r.part i hi x hx 0 h3
end Go.Proofs.Ytibpmiapcihkfaa
