/-
 What a block of a right array says. No program in sight.
-/
import Derived.Test.YtajnlhalanhicaaSupD
import Derived.Test.YtajnlhalanhicaaMathD
namespace Go.Proofs.Ytajnlhalanhicaa
set_option linter.all false
set_option maxRecDepth 20000
theorem field_small (s : Sup) (h : RightP s) (k x n : Nat) (hf : (fieldsL s)[k]? = some (x, n)) : x < 256 ^ n := by
 have hk : k < 8 := (List.getElem?_eq_some_iff.1 hf).1
 obtain ⟨x', n', a, hf', hx, _⟩ := field_at s h k hk
 rw [hf] at hf'
 injection hf' with e
 injection e with e1 e2
 subst e1 e2
 exact hx
theorem sup_split (s : Sup) (k x n : Nat) (hf : (fieldsL s)[k]? = some (x, n)) : ∃ ys, supBytes s = preL s k ++ (leBytes x n ++ ys) := by
 have hk : k < (fieldsL s).length := (List.getElem?_eq_some_iff.1 hf).1
 have he : (fieldsL s)[k] = (x, n) := (List.getElem?_eq_some_iff.1 hf).2
 have h8 : preL s 8 = preL s k ++ (leBytes x n ++ ((fieldsL s).drop (k + 1)).flatMap fun x => leBytes x.1 x.2) := by
  have e1 : (fieldsL s).take 8 = fieldsL s := List.take_of_length_le (by simp [fieldsL])
  unfold preL
  rw [e1, List.append_assoc]
  congr 1
  conv => lhs; rw [← List.take_append_drop k (fieldsL s)]
  rw [List.flatMap_append, List.drop_eq_getElem_cons hk, he, List.flatMap_cons]
 have e : supBytes s = preL s 8 ++ (List.replicate (124 - (preL s 8).length) 0 ++ leBytes (crc 0 (bodyL s)) 4) := by
  unfold supBytes
  conv => lhs; arg 1; unfold bodyL padL
  rw [List.append_assoc]
 rw [e]
 generalize List.replicate (124 - (preL s 8).length) 0 ++ leBytes (crc 0 (bodyL s)) 4 = tl
 rw [h8, List.append_assoc, List.append_assoc]
 exact ⟨_, rfl⟩
theorem fv_sup (s : Sup) (h : RightP s) (k x n : Nat) (hk : k < 8) (hf : (fieldsL s)[k]? = some (x, n)) (hn : sizeL.getD k 0 = n) : fv (supBytes s) k = x := by
 obtain ⟨ys, e⟩ := sup_split s k x n hf
 unfold fv fld
 rw [e, ← preL_len s k hk, hn]
 have hl := leBytes_len n x
 have h2 := drop_take_mid (preL s k) (leBytes x n) ys
 rw [hl] at h2
 rw [h2, leNum_leBytes, Nat.mod_eq_of_lt (field_small s h k x n hf)]
theorem parse_sup (s : Sup) (h : RightP s) : parseS (supBytes s) = s := by
 have e0 : fld (supBytes s) 4 8 = _ := fv_sup s h 0 _ _ (by omega) rfl rfl
 have e1 : fld (supBytes s) 12 1 = _ := fv_sup s h 1 _ _ (by omega) rfl rfl
 have e2 : fld (supBytes s) 13 1 = _ := fv_sup s h 2 _ _ (by omega) rfl rfl
 have e3 : fld (supBytes s) 14 1 = _ := fv_sup s h 3 _ _ (by omega) rfl rfl
 have e4 : fld (supBytes s) 15 1 = _ := fv_sup s h 4 _ _ (by omega) rfl rfl
 have e5 : fld (supBytes s) 16 4 = _ := fv_sup s h 5 _ _ (by omega) rfl rfl
 have e6 : fld (supBytes s) 20 4 = _ := fv_sup s h 6 _ _ (by omega) rfl rfl
 have e7 : fld (supBytes s) 24 4 = _ := fv_sup s h 7 _ _ (by omega) rfl rfl
 unfold parseS
 rw [e0, e1, e2, e3, e4, e5, e6, e7]
 have hsp : spareI (spareN s.spare) = s.spare := by
  unfold RightP at h
  unfold spareI spareN
  by_cases hp : s.spare < 0
  ·rw [if_pos hp, if_pos rfl]; omega
  ·rw [if_neg hp, if_neg (by omega)]; omega
 rw [hsp]
 unfold RightP at h
 obtain ⟨g, m, d, t, l, p, k, c⟩ := s
 simp only at h
 simp only [Sup.mk.injEq, true_and]
 refine ⟨?_, ?_, ?_, ?_, ?_, ?_, ?_⟩ <;> exact Int.toNat_of_nonneg (by omega)
theorem decOK_sup (s : Sup) (h : rightB s = true) : decOK (supBytes s) = true ∧ decS (supBytes s) = s := by
 have hp := parse_sup s (of_decide_eq_true h)
 have hk : decOK (supBytes s) = true := by
  unfold decOK
  rw [hp, h, supBytes_len]
  simp
 exact ⟨hk, by rw [decS_ok hk, hp]⟩
end Go.Proofs.Ytajnlhalanhicaa
