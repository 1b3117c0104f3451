/-
 THE WALK of RaidCrash.
-/
import Derived.Test.YtajnlhalanhicaaGreatRr
namespace Go.Proofs.YtajnlhalanhicaaGreat
set_option linter.all false
set_option maxRecDepth 20000
open Go.RowKit
set_option maxHeartbeats 4000000 in
theorem raidCrash_walk (me stp lo : Int) (A : Option Addr) (l c : Nat) (ops : List OpS) (w : World) (hm0 : -9223372036854775808 ≤ me) (hm1 : me ≤ 9223372036854775807) (hs0 : -9223372036854775808 ≤ stp) (hs1 : stp ≤ 9223372036854775807) (hl0 : -9223372036854775808 ≤ lo) (hl1 : lo ≤ 9223372036854775807)
  (hops : OpsS w w.heap.size A ops) (hl : ops.length = l) (hbd : ∀ o ∈ ops, -9223372036854775808 ≤ o.at_ ∧ o.at_ ≤ 9223372036854775807) :
  Calls Tryz.prog 4 #[.int .i64 me, .int .i64 stp, .int .i64 lo, .slice A l c] w fun e w' => e = .returned (.bool true) ∧ Below w.heap.size w w' := by
 have hb := below_made' w (.cells #[.int .i64 1, .int .i64 2, .int .i64 3, .int .i64 4, .int .i64 5, .int .i64 8] 3)
 have hkr : RdV (w.alloc (.cells #[.int .i64 1, .int .i64 2, .int .i64 3, .int .i64 4, .int .i64 5, .int .i64 8] 3)) (some ⟨w.heap.size, 0, none⟩) ([1, 2, 3, 4, 5, 8].map intK) := RdV.lit w 3 ([1, 2, 3, 4, 5, 8].map intK) (by simp)
 have hpl := play_any (w := w.alloc (.cells #[.int .i64 1, .int .i64 2, .int .i64 3, .int .i64 4, .int .i64 5, .int .i64 8] 3)) me stp lo hm0 hm1 hs0 hs1 hl0 hl1 A l c ops ((hops.below hb (Nat.le_refl _)).up hb.size) hl hbd (some ⟨w.heap.size, 0, none⟩) 6 6 [1, 2, 3, 4, 5, 8] hkr rfl (by omega) (fun k hk => by
  simp only [List.mem_cons, List.not_mem_nil, or_false] at hk
  unfold KindOk
  omega)
 replace hb := Lib.hid hb
 clear hops hl hbd hkr hm0 hm1 hs0 hs1 hl0 hl1
 go_enter Tryz.func4, Tryz.ntmps4
 go_wp2_with fail
 with_reducible refine hpl.mono ?_
 rintro e w2 ⟨rfl, hb2⟩
 have hfin := Lib.hid (below_to hb.out hb2)
 clear hpl hb hb2
 go_wp2_with fail
 go_ret
 exact ⟨rfl, hfin.out⟩
end Go.Proofs.YtajnlhalanhicaaGreat
