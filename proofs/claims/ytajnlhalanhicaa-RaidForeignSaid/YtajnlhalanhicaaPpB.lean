/-
 THE WALK of ppl.Decode.
-/
import Derived.Test.YtajnlhalanhicaaPpA
import Derived.Test.YtajnlhalanhicaaOctZ
import Derived.Test.YtajnlhalanhicaaBase
namespace Go.Proofs.Ytajnlhalanhicaa
set_option linter.all false
set_option maxRecDepth 20000
open Go.RowKit
theorem Own.blk {w w' : World} {E base : Nat} {v : Value} {bs : List UInt8} (h : Own w E base v bs) (hb : ∀ b, v.ownBlock = some b → w'.heap[b]? = w.heap[b]?) : Own w' E base v bs := by
 refine ⟨h.1, ?_⟩
 rcases h.2 with h0 | ⟨g, cap, cur, hv, hbg, hg, r⟩
 ·exact .inl h0
 ·refine .inr ⟨g, cap, cur, hv, hbg, (hb g ?_).trans hg, r⟩
  subst hv
  simp [Value.ownBlock]
def DecRPost (w : World) (hb pb : List UInt8) (e : Ending) (w' : World) : Prop :=
 ∃ A c, e = .returned (.tuple #[.agg #[.int .i64 (decR hb pb).stripe, .int .i64 (decR hb pb).place, .slice A (decR hb pb).part.length c], .int .i64 (decEP hb pb)]) ∧
  Own w' 5 w.heap.size (.slice A (decR hb pb).part.length c) (decR hb pb).part ∧ Below w.heap.size w w'
theorem decRPost_bad {w w' : World} {hb pb : List UInt8} (h : decOKP hb pb = false) (hB : Below w.heap.size w w') :
  DecRPost w hb pb (.returned (.tuple #[.agg #[.int .i64 0, .int .i64 0, .slice none 0 0], .int .i64 8])) w' := by
 unfold DecRPost
 rw [decR_bad h, decEP_bad h]
 exact ⟨none, 0, rfl, own_nil _ _ _, hB⟩
theorem num4_lt (bs : List UInt8) (o : Nat) : num4 bs o < 4294967296 := by
 unfold num4
 have h := leNum_lt ((bs.drop o).take 4)
 have h2 : ((bs.drop o).take 4).length ≤ 4 := by rw [List.length_take]; omega
 have h3 : 256 ^ ((bs.drop o).take 4).length ≤ 256 ^ 4 := Nat.pow_le_pow_right (by omega) h2
 have h4 : (256 : Nat) ^ 4 = 4294967296 := by decide
 omega
theorem i64_small (x : Nat) (h : x < 4294967296) : IntKind.i64.wrap (x : Int) = (x : Int) := by rw [IntKind.wrap_i64]; omega
set_option maxRecDepth 100000 in
set_option maxHeartbeats 2000000 in
theorem pp_dec_short (A B : Option Addr) (L c M d : Nat) (hb pb : List UInt8) (w : World) (hL : hb.length = L) (hr : Rd w A hb) (h : L < 12) :
  Calls Try.prog 102 #[.slice A L c, .slice B M d] w (DecRPost w hb pb) := by
 have hk : decOKP hb pb = false := by
  cases hd : decOKP hb pb with
  | false => rfl
  | true => have := decOKP_len hd; omega
 have g1 : Hid (∀ W, Rd W A hb → _) := Lib.hid fun W hW => get_u A L c hb 4 4 W hW hL
 have g2 : Hid (∀ W, Rd W A hb → _) := Lib.hid fun W hW => get_u A L c hb 8 4 W hW hL
 have e2 : getE hb 8 4 = 1 := by
  unfold getE
  rw [show getOK hb.length 8 4 = false from by unfold getOK; simp; omega]
  rfl
 have e1 : getE hb 4 4 = 0 ∨ getE hb 4 4 = 1 := by
  unfold getE
  cases getOK hb.length 4 4 <;> simp
 rw [e2] at g2
 replace hr := Lib.hid hr
 clear hL
 generalize getN hb 4 4 = n1 at *
 generalize getN hb 8 4 = n2 at *
 rcases e1 with e1 | e1
 all_goals
  rw [e1] at g1
  go_enter Try.func102, Try.ntmps102
  go_wp2_with fail
  refine (g1.out _ (hr.out.alloc _)).mono ?_
  rintro e w1 ⟨rfl, rfl⟩
  go_wp2_with fail
  refine (g2.out _ (hr.out.alloc _)).mono ?_
  rintro e w1 ⟨rfl, rfl⟩
  go_wp2_with fail
  exact bodyPost_ret (results_row_tmp rfl _ _ w.heap.size 150 _ _ _ rfl (heap_alloc_new _ _) Try.underlying150 rfl (by kernel_rfl)) rfl
   (decRPost_bad hk ((Below.refl _ _).alloc (Nat.le_refl _) _))
set_option maxRecDepth 100000 in
set_option maxHeartbeats 4000000 in
theorem pp_dec_main (A B : Option Addr) (L c M d : Nat) (hb pb : List UInt8) (w : World) (hL : hb.length = L) (hr : Rd w A hb) (h : 12 ≤ L) (hM : pb.length = M) (hp : Rd w B pb) (hM2 : M ≤ 140737488355328) :
  Calls Try.prog 102 #[.slice A L c, .slice B M d] w (DecRPost w hb pb) := by
 have g1 : Hid (∀ W, Rd W A hb → _) := Lib.hid fun W hW => get_ok A L c hb 4 4 W hW hL (by omega) (by omega) (by omega)
 have g2 : Hid (∀ W, Rd W A hb → _) := Lib.hid fun W hW => get_ok A L c hb 8 4 W hW hL (by omega) (by omega) (by omega)
 have hP : Hid (recP hb pb = ⟨(num4 hb 4 : Nat), (num4 hb 8 : Nat), pb⟩) := Lib.hid rfl
 rw [show leNum ((hb.drop 4).take 4) = num4 hb 4 from rfl] at g1
 rw [show leNum ((hb.drop 8).take 4) = num4 hb 8 from rfl] at g2
 have l1 := num4_lt hb 4
 have l2 := num4_lt hb 8
 generalize num4 hb 4 = n1 at *
 generalize num4 hb 8 = n2 at *
 have c1 := i64_small n1 l1
 have c2 := i64_small n2 l2
 replace hr := Lib.hid hr
 replace hL := Lib.hid hL
 replace hp := Lib.hid hp
 replace hM := Lib.hid hM
 go_enter Try.func102, Try.ntmps102
 go_wp2_with fail
 refine (g1.out _ (hr.out.alloc _)).mono ?_
 rintro e w1 ⟨rfl, rfl⟩
 go_wp2_with fail
 refine (g2.out _ (hr.out.alloc _)).mono ?_
 rintro e w1 ⟨rfl, rfl⟩
 go_wp2_with (at_builtin; refine wpList_append_rd rfl _ _ 32 rfl (w.heap.size + 1) 5 Try.underlying32 Try.infoU8 (.slice none 0 0) [] pb B M d rfl rfl (own_nil _ _ _) (hp.out.alloc _) hM.out (by simp; omega) (by simp) ?_; intro v2 w2 ho2 hg2; rw [List.nil_append] at ho2; have hbx := (own_nil (w.alloc (.cells #[.int .i64 0, .int .i64 0, .slice none 0 0] 150)) 5 (w.heap.size + 1)).grow hg2 (by simp); have hz2 := (hbx.block w.heap.size (by omega)).trans (heap_alloc_new w (.cells #[.int .i64 0, .int .i64 0, .slice none 0 0] 150)); have hb2 := (below_made' w _).trans (hbx.mono (by omega)); clear hg2 hbx; obtain ⟨A2, d2, rfl, _, _⟩ := ho2.form; rw [hM.out] at ho2 ⊢)
 obtain ⟨W0, hW0⟩ : ∃ W0, W0 = w2.alloc (.cells #[.int .i64 n1, .int .i64 n2, .slice A2 M d2] 150) := ⟨_, rfl⟩
 have hrow0 : W0.heap[w2.heap.size]? = some (.cells #[.int .i64 n1, .int .i64 n2, .slice A2 M d2] 150) := by rw [hW0]; exact heap_alloc_new _ _
 have hz0 : W0.heap[w.heap.size]? = some (.cells #[.int .i64 0, .int .i64 0, .slice none 0 0] 150) := by rw [hW0]; exact hrow_keep hz2 (below_made' _ _)
 have hbel0 : Below w.heap.size w W0 := by rw [hW0]; exact hb2.trans ((below_made' _ _).mono hb2.size)
 have ho0 : Own W0 5 (w.heap.size + 1) (.slice A2 M d2) pb := by rw [hW0]; exact own_lit ho2 _
 rw [← hW0]
 clear hW0 hz2 hb2 ho2
 generalize w2.heap.size = gs at *
 refine (pp_enc ⟨(n1 : Int), (n2 : Int), pb⟩ A2 M d2 W0 hM.out ho0.rd).mono ?_
 rintro e w6 ⟨A6, c6, rfl, ho6, hb6⟩
 rw [← hP.out] at ho6
 simp only [← hP.out]
 have hz6 := hrow_keep hz0 hb6
 have hrow6 := hrow_keep hrow0 hb6
 have hbel6 := hbel0.trans (hb6.mono hbel0.size)
 have hown6 := ho0.below hb6
 have hrB := hr.out.below hbel6
 obtain ⟨c0, c1', c2', hf⟩ := row3_cells w6 _ _ _ _ _ hz6
 obtain ⟨d0, d1, d2', df⟩ := row3_cells w6 _ _ _ _ _ hrow6
 have sB := run_string_rd (P := Try.prog) w6 32 9 5 Try.underlying32 Try.underlying5 Try.underlying9 A L c hb hrB hL.out
 clear hz0 hrow0 hb6 hbel0 hrB ho0 g1 g2
 unfold hdL hdE at *
 cases hm : mayB (recP hb pb) with
 | false =>
  have hk : decOKP hb pb = false := by unfold decOKP; rw [hm]; simp
  simp only [Bool.false_eq_true, if_false]
  clear hm ho6 sB d0 d1 d2' df hrow6 hown6
  go_wp2_with fail
  refine bodyPost_ret (results_row_tmp rfl _ _ w.heap.size 150 _ _ _ rfl (set3_row w6 _ _ _ _ _ (.int .i64 0) (.int .i64 0) (.slice none 0 0) hz6) Try.underlying150 rfl (by kernel_rfl)) rfl ?_
  exact decRPost_bad hk (set3_below hbel6 (Nat.le_refl _) _ _ _)
 | true =>
  simp only [hm, if_true] at ho6 ⊢
  have hlen := hdBytes_len (recP hb pb)
  rw [hlen] at ho6
  simp only [hlen]
  have sA := run_string_rd (P := Try.prog) w6 32 9 5 Try.underlying32 Try.underlying5 Try.underlying9 A6 128 c6 _ ho6.rd hlen
  by_cases heq : hdBytes (recP hb pb) = hb
  ·have hk : decOKP hb pb = true := by unfold decOKP; rw [hm, heq]; simp
   rw [heq] at sA
   clear hlen ho6 hm heq
   go_wp2_with fail
   refine bodyPost_ret (results_row_tmp rfl _ _ w.heap.size 150 _ _ _ rfl (set3_row w6 _ _ _ _ _ _ _ _ hz6) Try.underlying150 rfl (by kernel_rfl)) rfl ?_
   unfold DecRPost
   rw [decR_ok hk, decEP_ok hk, hP.out]
   refine ⟨A2, d2, by rw [hM.out]; rfl, ?_, set3_below hbel6 (Nat.le_refl _) _ _ _⟩
   show Own (set3 w6 w.heap.size _ _ _) _ _ (.slice A2 pb.length d2) pb
   rw [hM.out]
   exact (hown6.blk fun b hb => set3_other w6 w.heap.size b _ _ _ fun e => by
    obtain ⟨A', c', hv, _, hg⟩ := hown6.form
    injection hv with e1 e2 e3
    subst e1
    cases A2 with
    | none => cases hb
    | some ad =>
     obtain ⟨g, rfl, h1, _⟩ := hg ad rfl
     simp [Value.ownBlock] at hb
     omega).base_le (by omega)
  ·have hk : decOKP hb pb = false := by unfold decOKP; rw [hm]; simp [heq]
   have hne : (hdBytes (recP hb pb) == hb) = false := by rw [beq_eq_false_iff_ne]; exact heq
   clear hlen ho6 hm heq
   generalize hdBytes (recP hb pb) = sb at *
   go_wp2_with fail
   refine bodyPost_ret (results_row_tmp rfl _ _ w.heap.size 150 _ _ _ rfl (set3_row w6 _ _ _ _ _ (.int .i64 0) (.int .i64 0) (.slice none 0 0) hz6) Try.underlying150 rfl (by kernel_rfl)) rfl ?_
   exact decRPost_bad hk (set3_below hbel6 (Nat.le_refl _) _ _ _)
theorem pp_dec (A B : Option Addr) (L c M d : Nat) (hb pb : List UInt8) (w : World) (hL : hb.length = L) (hr : Rd w A hb) (hM : pb.length = M) (hp : Rd w B pb) (hM2 : M ≤ 140737488355328) :
  Calls Try.prog 102 #[.slice A L c, .slice B M d] w (DecRPost w hb pb) := by
 by_cases h : L < 12
 ·exact pp_dec_short A B L c M d hb pb w hL hr h
 ·exact pp_dec_main A B L c M d hb pb w hL hr (by omega) hM hp hM2
end Go.Proofs.Ytajnlhalanhicaa
