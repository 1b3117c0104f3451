/-
 What was encoded is decoded; a head or a part of which a byte is another one is that of no record. No program in sight.
-/
import Derived.Test.YtajnlhalanhicaaPpM
import Derived.Test.YtajnlhalanhicaaMathD
namespace Go.Proofs.Ytajnlhalanhicaa
set_option linter.all false
set_option maxRecDepth 20000
theorem hd_split (r : Rec) : ∃ ys, hdBytes r = magicP ++ (leBytes r.stripe.toNat 4 ++ (leBytes r.place.toNat 4 ++ (leBytes (crc 0 r.part) 4 ++ ys))) :=
 ⟨List.replicate (124 - (preP r 3).length) 0 ++ leBytes (crc 0 (bodyP r)) 4, by simp [hdBytes, bodyP, padL, preP, fieldsP]⟩
theorem num4_at (xs ys : List UInt8) (x o : Nat) (hx : x < 4294967296) (ho : xs.length = o) : num4 (xs ++ (leBytes x 4 ++ ys)) o = x := by
 unfold num4
 subst ho
 have h := drop_take_mid xs (leBytes x 4) ys
 rw [leBytes_len] at h
 rw [h, leNum_leBytes]
 omega
theorem recP_hd (r : Rec) (h : MayP r) : recP (hdBytes r) r.part = r := by
 obtain ⟨h1, h2, h3, h4, _⟩ := h
 obtain ⟨ys, e⟩ := hd_split r
 have a := num4_at magicP (leBytes r.place.toNat 4 ++ (leBytes (crc 0 r.part) 4 ++ ys)) r.stripe.toNat 4 (by omega) rfl
 have b := num4_at (magicP ++ leBytes r.stripe.toNat 4) (leBytes (crc 0 r.part) 4 ++ ys) r.place.toNat 8 (by omega) (by simp [magicP, leBytes_len])
 rw [List.append_assoc] at b
 rw [← e] at a b
 unfold recP
 rw [a, b]
 obtain ⟨s, p, x⟩ := r
 simp only [Rec.mk.injEq, and_true]
 exact ⟨Int.toNat_of_nonneg h1, Int.toNat_of_nonneg h3⟩
theorem dec_hd (r : Rec) (h : mayB r = true) : decOKP (hdBytes r) r.part = true ∧ decR (hdBytes r) r.part = r ∧ decEP (hdBytes r) r.part = 0 := by
 have e := recP_hd r (of_decide_eq_true h)
 have k : decOKP (hdBytes r) r.part = true := by unfold decOKP; rw [e, h]; simp
 exact ⟨k, by rw [decR_ok k, e], decEP_ok k⟩
end Go.Proofs.Ytajnlhalanhicaa
