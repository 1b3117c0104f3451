/-
 THE WALK of RaidWhole.
-/
import Derived.Test.YtajnlhalanhicaaGreatRr
import Derived.Test.YtajnlhalanhicaaGreatRwA
namespace Go.Proofs.YtajnlhalanhicaaGreat
set_option linter.all false
set_option maxRecDepth 20000
open Go.RowKit
section
variable {base rb mb cap N m st lg K : Nat} {G : Nat → Nat × Nat × Nat} {F F' : VolF} {tv : Value} {w w' : World} {s s' : ShM} {V V' : VolM} {L : Nat → List Bytes}
theorem rig_doW (h : RigAt w base rb mb cap G F tv m st lg N s V L false) (ho : RigOk s V N L false (m, st)) (hlen : ∀ b, b < N → (L b).length ≤ K) (hK : K ≤ 900) (hN : N ≤ 1000) (kind n d : Int) (x : UInt8) (KA : Option Addr) (kn kc : Nat) (keep : List (List Int)) (hKL : KeepL w base KA keep) (hkn : keep.length = kn) (hk : 2 ≤ kind ∧ kind ≤ 5) :
  Calls Tryz.prog 13 #[.pointer (some ⟨rb, 0, none⟩), .agg #[.int .i64 kind, .int .i64 n, .int .i64 d, .int .u8 (x.toNat : Int), .slice KA kn kc]] w (DoPost w base rb mb cap tv m st lg N (K + 1) false) := by
 have h4 : kind = 2 ∨ kind = 3 ∨ kind = 4 ∨ kind = 5 := by omega
 rcases h4 with rfl | rfl | rfl | rfl
 ·exact rig_do2 h ho hlen hK hN n d x _
 ·exact rig_do3 h ho hlen hK hN n d _ _
 ·exact rig_do4 h ho hlen n d _ _
 ·exact rig_do5 h ho hlen hK hN n d _ KA kn kc keep hKL hkn
theorem RigOk.stN {killed : Bool} (h : RigOk s V N L killed (m, st)) : st ≤ N := by
 have h3 : 3 ≤ V.m := by
  rcases h.st with ⟨U, M, D, B, O, hl, _⟩ | hd
  ·exact hl.cv.m3
  ·exact hd.m3
 have hq : V.stripes = st := h.q.2
 rw [h.size]
 unfold VolM.size
 rw [hq]
 exact Nat.le_mul_of_pos_right st (by omega)
theorem rig_whole (h : RigAt w base rb mb cap G F tv m st lg N s V L false) (ho : RigOk s V N L false (m, st)) (hon : s.off = false) {n : Nat} (hn : n < st) :
  Calls Tryz.prog 15 #[.pointer (some ⟨F.v, 0, none⟩), .int .i64 (n : Int)] w fun e w' => e = .returned (.tuple #[.bool true, .int .i64 0]) ∧ ∃ s', RigAt w' base rb mb cap G F tv m st lg N s' V L false ∧ RigOk s' V N L false (m, st) ∧ s'.off = false ∧ Below base w w' := by
 have hq := ho.q.2
 dsimp only at hq
 have hn' : n < V.stripes := by omega
 obtain ⟨s', e, t⟩ := ho.whole hon hn'
 refine (ra_whole h.vol (ho.room.mono (by omega)) n hn').mono ?_
 rintro e w' ⟨rfl, hV, hK⟩
 rw [e] at hV ⊢
 exact ⟨rfl, s', h.keep hV hK, ho.ticked t, t.off.trans hon, hK.below fun b hb => .inl hb⟩
theorem rig_whole_bad (h : RigAt w base rb mb cap G F tv m st lg N s V L false) (ho : RigOk s V N L false (m, st)) :
  Calls Tryz.prog 15 #[.pointer (some ⟨F.v, 0, none⟩), .int .i64 (st : Int)] w fun e w' => e = .returned (.tuple #[.bool false, .int .i64 1]) ∧ RigAt w' base rb mb cap G F tv m st lg N s V L false ∧ Below base w w' := by
 have hq : V.stripes = st := ho.q.2
 have hb : ¬ ((0 : Int) ≤ (st : Int) ∧ (st : Int) < V.sup.stripes) := by
  have : V.stripes = V.sup.stripes.toNat := rfl
  omega
 refine (ra_whole_bad h.vol (st : Int) hb).mono ?_
 rintro e w' ⟨rfl, hV, hK⟩
 have : volWhole s V (st : Int) = (false, 1, s) := by unfold volWhole; rw [if_neg hb]
 rw [this] at hV ⊢
 exact ⟨rfl, h.keep hV hK, hK.below fun b hb => .inl hb⟩
end
end Go.Proofs.YtajnlhalanhicaaGreat
