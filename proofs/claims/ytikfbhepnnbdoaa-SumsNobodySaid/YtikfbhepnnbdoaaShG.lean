/-
  THE WALK over the shelf's Corrupt.
-/
import Derived.Test.YtikfbhepnnbdoaaShQ
import Derived.Test.YtikfbhepnnbdoaaShB
import Derived.Test.YtikfbhepnnbdoaaMemB
namespace Go.Proofs.Ytikfbhepnnbdoaa
set_option linter.all false
open Go.RowKit

theorem xor_byte8 (a b : UInt8) : bits .xor .u8 (a.toNat : Int) (b.toNat : Int) = ((a ^^^ b).toNat : Int) := by
  rw [u8_xor_nat _ _ a.toNat_lt b.toNat_lt, UInt8.toNat_xor]

theorem seenF_same {s : ShM} {d : Nat} (hd : d < s.disks.length) (k : DiskM) (hk : k.waits = (s.disk d).waits) : seenF (s.setDisk d k) = seenF s := by
  funext x y
  simp only [seenF, ShM.set_len]
  by_cases hx : x = d
  · subst hx
    rw [s.disk_set hd, hk]
  · rw [s.disk_set_ne hx]

section
variable {w : World} {F : ShF} {s : ShM}
set_option maxRecDepth 3000 in
set_option maxHeartbeats 1000000 in
theorem sh_corrupt (hS : ShAt w F s) (d n at_ : Int) (b : UInt8) :
    Calls Try.prog 29 #[.pointer (some ⟨F.g, 0, none⟩), .int .i64 d, .int .i64 n, .int .i64 at_, .int .u8 (b.toNat : Int)] w fun e w' =>
      e = .returned (.int .i64 (s.corruptR d n at_ b).1) ∧ ShAt w' F (s.corruptR d n at_ b).2 ∧ Turns F.blocks w w' := by
  have hhas := sh_has hS d n
  have hlt := hS.lt _ F.mem_g
  by_cases hh : s.has d n = true
  · obtain ⟨⟨hd0, hd1⟩, hn0, hn1⟩ := has_of hh
    obtain ⟨d, rfl⟩ := Int.eq_ofNat_of_zero_le hd0
    obtain ⟨n, rfl⟩ := Int.eq_ofNat_of_zero_le hn0
    have hd' : d < s.disks.length := by omega
    have hn' : n < s.sectors := by omega
    rw [hh] at hhas
    by_cases ha : 0 ≤ at_ ∧ at_ < 128
    · obtain ⟨ha0, ha1⟩ := ha
      obtain ⟨a, rfl⟩ := Int.eq_ofNat_of_zero_le ha0
      have hc5 := hS.c5
      have h4096 := hS.ok.sectors4096
      have h17 := hS.ok.disks17
      have hd7 : smallN d := by unfold smallN; omega
      have hn7 : smallN n := by unfold smallN; omega
      have hlook := hS.seen.look Try.pairMap d n hd7 hn7
      have hseen : seenF s d n = waitsOf (s.disk d).waits n := by simp only [seenF, if_pos hd']
      have hsl := (hS.okd hd').1
      rw [hseen] at hlook
      unfold pairV at hlook
      by_cases hw : waitsOf (s.disk d).waits n = 0
      · have hres : s.corruptR d n a b = (0, s.setDisk d ((s.disk d).corrupt n a b)) := by
          simp only [ShM.corruptR, hh, true_and, if_pos (show (0 : Int) ≤ (a : Int) ∧ (a : Int) < 128 from ⟨ha0, ha1⟩), Int.toNat_natCast, if_pos hw]
        rw [hres]
        rw [hw] at hlook
        simp only [Int.natCast_zero] at hlook
        have hc2 := hS.c2
        have he0 := hS.e0 hd'
        rw [hsl] at he0
        have hsu := hS.esure (n := n) hd' (by rw [hsl]; exact hn')
        have hlen : ((s.disk d).sure.getD n []).length = 128 := by
          have hx := (hS.okd hd').2.1
          rw [List.getD_eq_getElem?_getD, List.getElem?_eq_getElem (by rw [hsl]; exact hn'), Option.getD_some]
          exact hx _ (List.getElem_mem _)
        unfold strV at hsu
        have hres2 : (s.disk d).corrupt n a b = { s.disk d with sure := (s.disk d).sure.set n (((s.disk d).sure.getD n []).set a (((s.disk d).sure.getD n []).getD a 0 ^^^ b)) } := rfl
        rw [hres2]
        replace hsl := Lib.hid hsl
        replace hres := Lib.hid hres
        replace hres2 := Lib.hid hres2
        replace hseen := Lib.hid hseen
        replace hw := Lib.hid hw
        generalize hbs : (s.disk d).sure.getD n [] = bs at *
        replace hbs := Lib.hid hbs
        replace hlen := Lib.hid hlen
        generalize hgs : (F.at_ d).gs = gs at *
        replace hgs := Lib.hid hgs
        generalize (F.at_ d).cs = cs at *
        go_enter Try.func29, Try.ntmps29
        go_wp2_with fail
        refine hhas.mono ?_
        rintro e w' ⟨rfl, rfl⟩
        obtain ⟨cb, w1, hcv, hrm, hb1, hs1, _⟩ := ex_bytes (P := Try.prog) w 9 28 5 Try.underlying9 Try.underlying28 Try.underlying5 bs
        rw [hlen.out] at hcv
        have hcell := hrm.cell a (by rw [hlen.out]; omega)
        have hfrz := hrm.frozen a (by rw [hlen.out]; omega)
        have hget : bs.getD a 0 = bs[a]'(by rw [hlen.out]; omega) := by rw [List.getD_eq_getElem?_getD, List.getElem?_eq_getElem (by rw [hlen.out]; omega)]; rfl
        rw [← hget] at hcell
        have hxb := xor_byte8 (bs.getD a 0) b
        generalize hx : bs.getD a 0 = x at *
        replace hx := Lib.hid hx
        replace hget := Lib.hid hget
        go_wp2_with fail
        have hbn : w.heap.size ∉ F.blocks := fun hm => by
          have := hS.lt _ hm
          omega
        have hR2 := hrm.set a (by rw [hlen.out]; omega) (x ^^^ b)
        rw [UInt8.toNat_xor] at hR2
        have hS2 := (hS.below hb1).far (a := ⟨w.heap.size, a, none⟩) hbn (.int .u8 ((x.toNat ^^^ b.toNat : Nat) : Int))
        have hT2 : Below w.heap.size w (w1.setCell ⟨w.heap.size, a, none⟩ (.int .u8 ((x.toNat ^^^ b.toNat : Nat) : Int))) := hb1.setCell (Nat.le_refl _) _
        generalize w1.setCell ⟨w.heap.size, a, none⟩ (.int .u8 ((x.toNat ^^^ b.toNat : Nat) : Int)) = W at *
        have hlen2 : (bs.set a (x ^^^ b)).length = 128 := by rw [List.length_set, hlen.out]
        have hset := hS2.esetSure (n := n) hd' (bs.set a (x ^^^ b)) hlen2
        have hsr := run_string_rd (P := Try.prog) W 28 9 5 Try.underlying28 Try.underlying5 Try.underlying9 (some ⟨w.heap.size, 0, none⟩) 128 cb (bs.set a (x ^^^ b)) (hR2.rd (by rw [hlen2]; omega)) hlen2
        generalize hbs2 : bs.set a (x ^^^ b) = bs2 at *
        replace hbs2 := Lib.hid hbs2
        have hg2 := hS2.c2
        have hgs2 := hS2.e0 hd'
        rw [hsl.out, hgs.out] at hgs2
        have hsz2 := hS2.efrozen hd' n
        have hsu2 := hS2.esure (n := n) hd' (by rw [hsl.out]; exact hn')
        have hgn := hS2.gs_ne hd'
        have hgm := F.mem_gs (hS2.fd hd')
        rw [hgs.out] at hset hsz2 hsu2 hgn hgm
        unfold strV at hset
        have hkeep : ∀ W', Turns [gs] W W' → W'.cell? ⟨F.g, 2, none⟩ = some (.slice (some ⟨F.gd, 0, none⟩) s.disks.length F.cd) ∧ W'.cell? ⟨F.gd, d * 3, none⟩ = some (.slice (some ⟨gs, 0, none⟩) s.sectors ((F.at_ d).cs)) ∧ (convert 28 9 (.slice (some ⟨w.heap.size, 0, none⟩) 128 cb)).run Try.prog W' = .ok (.string ⟨bs2.toArray⟩) W' := by
          intro W' hT
          have hb : ∀ c, c ≠ gs → c < W.heap.size → W'.heap[c]? = W.heap[c]? := fun c hc hl => hT.block c hl (by simpa using hc)
          have q1 := hb _ hgn.1.symm (hS2.lt _ F.mem_g)
          have q2 := hb _ hgn.2.1.symm (hS2.lt _ F.mem_gd)
          have q3 := hb w.heap.size (fun e => hbn (e ▸ hgm)) hR2.lt
          exact ⟨(World.cell?_of_block q1).trans hg2, (World.cell?_of_block q2).trans hgs2, run_string_rd (P := Try.prog) W' 28 9 5 Try.underlying28 Try.underlying5 Try.underlying9 _ 128 cb bs2 ((hR2.of_block q3).rd (by rw [hlen2]; omega)) hlen2⟩
        have hnlt : (n : Int) < (s.sectors : Int) := hn1
        generalize (F.at_ d).cs = cs2 at *
        generalize hgw : w.heap.size = gw at *
        clear hcell hfrz hrm hb1 hcv hs1
        go_region_held3 (fun w' => w'.cell? ⟨F.g, 2, none⟩ = some (.slice (some ⟨F.gd, 0, none⟩) s.disks.length F.cd) ∧ w'.cell? ⟨F.gd, d * 3, none⟩ = some (.slice (some ⟨gs, 0, none⟩) s.sectors cs2) ∧ (convert 28 9 (.slice (some ⟨gw, 0, none⟩) 128 cb)).run Try.prog w' = .ok (.string ⟨bs2.toArray⟩) w')
          ((refine hkeep _ ?_; repeat (first | exact Turns.refl _ _ | assumption | refine Turns.drew ?_ | refine Turns.setCell ?_ (by simp) _)))
          (fail)
        clear hkeep hsr hlook
        replace hset := Lib.hid hset
        go_wp2
        go_ret
        have hset2 := hset.out.drew
        refine ⟨by simp, ?_, ?_⟩
        · have e1 : bs[a]?.getD 0 = x := by rw [← List.getD_eq_getElem?_getD]; exact hx.out
          rw [e1, hbs2.out]
          have e2 : seenF (s.setDisk d { sure := (s.disk d).sure.set n bs2, waits := (s.disk d).waits, dead := (s.disk d).dead }) = seenF s := seenF_same hd' _ rfl
          unfold ShAt
          rw [e2]
          exact hset2
        · subst hgw
          exact (((Turns.of_below hT2).setCell hgm _).drew)
      · have hres : s.corruptR d n a b = (9, s) := by
          simp only [ShM.corruptR, hh, true_and, if_pos (show (0 : Int) ≤ (a : Int) ∧ (a : Int) < 128 from ⟨ha0, ha1⟩), Int.toNat_natCast, if_neg hw]
        rw [hres]
        have hpos : (0 : Int) < ((waitsOf (s.disk d).waits n : Nat) : Int) := by omega
        generalize waitsOf (s.disk d).waits n = q at *
        clear hw hres hseen
        go_enter Try.func29, Try.ntmps29
        go_wp2_with fail
        refine hhas.mono ?_
        rintro e w' ⟨rfl, rfl⟩
        go_wp2
        go_ret
        exact ⟨by simp, hS, Turns.refl _ _⟩
    · have hres : s.corruptR d n at_ b = (1, s) := by
        simp only [ShM.corruptR]
        rw [if_neg (by rintro ⟨_, h⟩; exact ha h)]
      rw [hres]
      clear hres
      by_cases h0 : at_ < 0
      · clear ha
        go_enter Try.func29, Try.ntmps29
        go_wp2_with fail
        refine hhas.mono ?_
        rintro e w' ⟨rfl, rfl⟩
        go_wp2
        go_ret
        exact ⟨by simp, hS, Turns.refl _ _⟩
      · have h1 : 128 ≤ at_ := by omega
        clear ha
        go_enter Try.func29, Try.ntmps29
        go_wp2_with fail
        refine hhas.mono ?_
        rintro e w' ⟨rfl, rfl⟩
        go_wp2
        go_ret
        exact ⟨by simp, hS, Turns.refl _ _⟩
  · have hres : s.corruptR d n at_ b = (1, s) := by
      simp only [ShM.corruptR]
      rw [if_neg (by rintro ⟨h, _⟩; exact hh h)]
    rw [hres]
    have hs' : s.has d n = false := by simpa using hh
    rw [hs'] at hhas
    clear hh hres
    go_enter Try.func29, Try.ntmps29
    go_wp2_with fail
    refine hhas.mono ?_
    rintro e w' ⟨rfl, rfl⟩
    go_wp2
    go_ret
    exact ⟨by simp, hS, Turns.refl _ _⟩
theorem sh_corrupt_nil (w : World) (d n a : Int) (b : Value) : Calls Try.prog 29 #[.pointer none, .int .i64 d, .int .i64 n, .int .i64 a, b] w fun e w' => e = .returned (.int .i64 2) ∧ w = w' := by
  go_enter Try.func29, Try.ntmps29
  go_wp2
  go_ret
  exact ⟨by simp, rfl⟩
end
end Go.Proofs.Ytikfbhepnnbdoaa
