/-
  THE WALK of OctetsXors: byte by byte the exclusive or; what is handed in stays.
-/
import Derived.Test.YtnnpdndmcenfeaaOctU
namespace Go.Proofs.Ytnnpdndmcenfeaa
open Go.RowKit

theorem Rd.set_old {w0 w : World} {A : Option Addr} {bs : List UInt8} (h0 : Rd w0 A bs) (h : Rd w A bs) {g i : Nat} (hg : w0.heap.size ≤ g) (u : Value) : Rd (w.setCell ⟨g, i, none⟩ u) A bs :=
  ⟨h.1, h.2.1, fun ad e j hj => by
    have hb := World.block_lt_of_cell? w0 _ (h0.2.2 ad e j hj)
    rw [World.cell?_setCell_other w _ _ _ (fun e2 => by rw [← e2] at hb; exact absurd hb (by simp; omega))]
    exact h.2.2 ad e j hj⟩
theorem Rd.set_new {w : World} {A : Option Addr} {bs : List UInt8} (h : Rd w A bs) {g i : Nat} (hg : ∀ ad, A = some ad → g < ad.block) (u : Value) : Rd (w.setCell ⟨g, i, none⟩ u) A bs :=
  ⟨h.1, h.2.1, fun ad e j hj => by
    have hb := hg ad e
    rw [World.cell?_setCell_other w _ _ _ (fun e2 => by
      have := add_block ad j
      rw [← e2] at this
      simp at this
      omega)]
    exact h.2.2 ad e j hj⟩

structure XorsInv (W wr : World) (base : Nat) (A A1 A2 A3 A4 B : Option Addr) (c3 : Nat) (xs ys xl : List UInt8) (zs : List UInt8) : Prop where
  len : zs.length = xl.length
  own : Own wr 5 base (.slice A3 xl.length c3) zs
  r1 : Rd wr A1 xs
  r2 : Rd wr A2 ys
  rA : Rd wr A xs
  rB : Rd wr B ys
  r4 : Rd wr A4 xl
  below : Below W.heap.size W wr

theorem inc_byte (b : UInt8) : IntKind.u8.wrap ((b.toNat : Int) + 1) = ((b + 1).toNat : Int) := by
  have e : IntKind.u8.wrap ((b.toNat : Int) + 1) = ((b.toNat : Int) + 1) % 256 := by simp [IntKind.wrap, IntKind.bits, IntKind.signed]
  rw [e, UInt8.toNat_add]
  simp

set_option maxRecDepth 100000 in
set_option maxHeartbeats 2000000 in
theorem octetsXors_walk (A : Option Addr) (n c : Nat) (xs : List UInt8) (B : Option Addr) (m d : Nat) (ys : List UInt8) (W : World)
    (ha : Rd W A xs) (hn : xs.length = n) (sn : n ≤ 140737488351232) (hb : Rd W B ys) (hm : ys.length = m) (sm : m ≤ 140737488351232) :
    Calls Try.prog 8 #[.slice A n c, .slice B m d] W fun e W' => e = .returned (.bool true) ∧ Below W.heap.size W W' := by
  subst hn hm
  have HA := Lib.hid ha
  have HB := Lib.hid hb
  clear ha hb
  go_enter Try.func8, Try.ntmps8
  go_wp2_with (first | (at_builtin; refine wpList_append_rd rfl (.tmp 14) (.tmp 15) 23 rfl W.heap.size 5 Try.underlying23 Try.infoU8 (.slice (some ⟨W.heap.size, 0, none⟩) 0 0) [] xs A xs.length c rfl rfl (Own.none_ W _) (HA.out.alloc _) rfl (by simp; omega) (by simp) ?_; intro v1 w1 hown1 hg1; have hb1 := below_made hg1) | (at_builtin; refine wpList_append_rd rfl (.tmp 17) (.tmp 18) 23 rfl w1.heap.size 5 Try.underlying23 Try.infoU8 (.slice (some ⟨w1.heap.size, 0, none⟩) 0 0) [] ys B ys.length d rfl rfl (Own.none_ w1 _) ((HB.out.below hb1).alloc _) rfl (by simp; omega) (by simp) ?_; intro v2 w2 hown2 hg2; have hb2 := below_made hg2))
  obtain ⟨A1, c1, rfl, hr1, _⟩ := hown1.form
  obtain ⟨A2, c2, rfl, hr2, _⟩ := hown2.form
  simp only [List.nil_append] at hr1 hr2
  have hb12 := below_to hb1 hb2
  have hr1b := hr1.below hb2
  clear hown1 hown2 hg1 hg2 hr1 hb1 hb2
  simp only [List.nil_append]
  refine (xor_u A1 A2 xs.length ys.length c1 c2 xs ys _ hr1b hr2 rfl rfl (by omega)).mono ?_
  rintro e w3 ⟨A3, c3, rfl, hown3, hb3⟩
  have hb13 := below_to hb12 hb3
  have hA3 := HA.out.below hb13
  have hB3 := HB.out.below hb13
  go_wp2_with fail
  refine (rxor_u A B xs.length ys.length c d xs ys _ hA3 hB3 rfl rfl (by omega)).mono ?_
  rintro e w4 ⟨A4, c4, rfl, hown4, hb4⟩
  have hb24 := Lib.hid (below_to hb3 hb4)
  have hb14 := below_to hb13 hb4
  have hw2 : W.heap.size ≤ w2.heap.size := hb12.size
  have hown34 := hown3.below hb4
  obtain ⟨_, _, hv4, hr4, hs4⟩ := hown4.form
  injection hv4 with hv4 _ _
  subst hv4
  have hlt3 : ∀ g, A3 = some ⟨g, 0, none⟩ → w2.heap.size ≤ g ∧ g < w3.heap.size := by
    obtain ⟨_, _, hv3, _, hs3⟩ := hown3.form
    injection hv3 with hv3 _ _
    intro g hg
    obtain ⟨g', e, h1, h2⟩ := hs3 _ (hv3.symm.trans hg)
    injection e with e
    subst e
    exact ⟨h1, h2⟩
  have HLT3 := Lib.hid hlt3
  have HS4 := Lib.hid hs4
  have hr14 := hr1b.below hb24.out
  have hr24 := hr2.below hb24.out
  have HR1 := Lib.hid hr1b
  have HR2 := Lib.hid hr2
  have HA2 := Lib.hid (HA.out.below hb12)
  have HB2 := Lib.hid (HB.out.below hb12)
  have hA4 := HA.out.below hb14
  have hB4 := HB.out.below hb14
  clear hown3 hown4 hlt3 hs4 hr1b hr2 hA3 hB3 hb3 hb4 hb13 hb12 hb24
  have hxl : (xorL xs ys).length ≤ 140737488351232 := by unfold xorL; split <;> simp <;> omega
  generalize xorE xs ys = xe at *
  generalize hxl2 : xorL xs ys = xl at *
  have HX := Lib.hid hxl2
  clear hxl2
  have hown34' : Own w4 5 w2.heap.size (.slice A3 xl.length c3) xl := hown34
  have hinv : XorsInv W w4 w2.heap.size A A1 A2 A3 A4 B c3 xs ys xl xl := ⟨rfl, hown34', hr14, hr24, hA4, hB4, hr4, hb14⟩
  clear hr14 hr24 hA4 hB4 hr4 hb14 hown34 hown34'
  go_wp2_with fail
  go_loopw [11] (fun i wr => ∃ (k : Nat) (zs : List UInt8), i = .int .i64 k ∧ XorsInv W wr w2.heap.size A A1 A2 A3 A4 B c3 xs ys xl zs) (fun i _ => xl.length - (intOf i).toNat)
  case atStart => exact ⟨0, xl, rfl, hinv⟩
  case round =>
    obtain ⟨k, zs, rfl, inv⟩ := hrel
    by_cases hlt : k < xl.length
    · have hk : k < zs.length := by rw [inv.len]; exact hlt
      obtain ⟨_, g, rfl, hg1, hg2⟩ := inv.own.some_ hk
      obtain ⟨hgb, hge⟩ := HLT3.out g rfl
      have hown := inv.own
      rw [← inv.len] at hown
      have hc := hown.cellG k hk
      have hf := hown.frozenG k
      have hib := inc_byte zs[k]
      have hset := hown.set k (zs[k] + 1)
      have hlz : (zs.set k (zs[k] + 1)).length = xl.length := by rw [List.length_set]; exact inv.len
      rw [hlz] at hset
      have hinv2 : XorsInv W (wr.setCell ⟨g, k, none⟩ (.int .u8 ((zs[k] + 1).toNat : Int))) w2.heap.size A A1 A2 (some ⟨g, 0, none⟩) A4 B c3 xs ys xl (zs.set k (zs[k] + 1)) :=
        ⟨hlz, hset, HR1.out.set_old inv.r1 hgb _, HR2.out.set_old inv.r2 hgb _, HA2.out.set_old inv.rA hgb _, HB2.out.set_old inv.rB hgb _, inv.r4.set_new (fun ad e => by obtain ⟨g4, rfl, h1, _⟩ := HS4.out ad e; simp; omega) _, inv.below.setCell (by simp; omega) _⟩
      generalize zs[k] + 1 = z1 at *
      generalize zs[k] = z0 at *
      have HI2 := Lib.hid hinv2
      clear hset hlz hown inv hinv2 hinv
      go_wp2
      go_roundw
      case rel => exact ⟨k + 1, _, by go_num, HI2.out⟩
      case measure => simp [intOf]; omega
    · clear hinv
      go_wp2_with fail
      refine (xor_u A1 A2 xs.length ys.length c1 c2 xs ys _ inv.r1 inv.r2 rfl rfl (by omega)).mono ?_
      rintro e w5 ⟨A5, c5, rfl, hown5, hb5⟩
      rw [HX.out] at hown5 ⊢
      go_wp2_with fail
      refine (lives01 _).mono ?_
      rintro e w6 ⟨rfl, hb6⟩
      have hb56 := below_to hb5 hb6
      have s5 := run_string_rd (P := Try.prog) w6 23 9 5 Try.underlying23 Try.underlying5 Try.underlying9 A5 _ c5 _ (hown5.rd.below hb6) rfl
      have s4 := fun cc => run_string_rd (P := Try.prog) w6 23 9 5 Try.underlying23 Try.underlying5 Try.underlying9 A4 _ cc _ (inv.r4.below hb56) rfl
      have s1 := run_string_rd (P := Try.prog) w6 23 9 5 Try.underlying23 Try.underlying5 Try.underlying9 A1 _ c1 _ (inv.r1.below hb56) rfl
      have s2 := run_string_rd (P := Try.prog) w6 23 9 5 Try.underlying23 Try.underlying5 Try.underlying9 A2 _ c2 _ (inv.r2.below hb56) rfl
      have sA := run_string_rd (P := Try.prog) w6 23 9 5 Try.underlying23 Try.underlying5 Try.underlying9 A _ c _ (inv.rA.below hb56) rfl
      have sB := run_string_rd (P := Try.prog) w6 23 9 5 Try.underlying23 Try.underlying5 Try.underlying9 B _ d _ (inv.rB.below hb56) rfl
      have hbf := below_to inv.below hb56
      clear hown5 hb5 hb6 hb56 inv
      go_wp2_with fail
      go_ret
      exact ⟨rfl, hbf⟩
end Go.Proofs.Ytnnpdndmcenfeaa
