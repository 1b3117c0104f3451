/-
  The shelf's Read, whole; Sector; Fork of nobody.
-/
import Derived.Test.YtikfbhepnnbdoaaShU
import Derived.Test.YtikfbhepnnbdoaaShO
import Derived.Test.YtikfbhepnnbdoaaShE
import Derived.Test.YtikfbhepnnbdoaaShG
namespace Go.Proofs.Ytikfbhepnnbdoaa
set_option linter.all false
open Go.RowKit

/-- bytes that a call hands back: of its own, or none -/
def Fresh (w w' : World) (v : Value) (bs : Bytes) : Prop := ∃ A c, v = .slice A bs.length c ∧ ((A = none ∧ bs = []) ∨ ∃ g, A = some ⟨g, 0, none⟩ ∧ (w.heap.size ≤ g ∧ bs.length ≤ c) ∧ RowM w' g bs)
theorem Fresh.nil (w w' : World) : Fresh w w' (.slice none 0 0) [] := ⟨none, 0, rfl, .inl ⟨rfl, rfl⟩⟩
theorem Fresh.form {w w' : World} {v : Value} {bs : Bytes} (h : Fresh w w' v bs) (hl : bs.length ≤ 9223372036854775807) : ∃ A c, v = .slice A bs.length c ∧ Rd w' A bs ∧ ∀ ad, A = some ad → w.heap.size ≤ ad.block := by
  obtain ⟨A, c, rfl, h⟩ := h
  refine ⟨A, c, rfl, ?_⟩
  rcases h with ⟨rfl, rfl⟩ | ⟨g, rfl, hg, hr⟩
  · exact ⟨Rd.nil _, fun ad e => by cases e⟩
  · exact ⟨hr.rd hl, fun ad e => by injection e with e; subst e; exact hg.1⟩

theorem waitsOf_none {ws : List (Nat × Bytes)} {n : Nat} (h : waitsOf ws n = 0) : lastOf ws n = none := by
  have h0 : ws.filter (fun w => w.1 == n) = [] := List.eq_nil_of_length_eq_zero h
  rw [lastOf]
  have : ws.reverse.find? (fun w => w.1 == n) = none := by
    rw [List.find?_eq_none]
    intro x hx hxn
    have hm : x ∈ ws.filter (fun w => w.1 == n) := List.mem_filter.2 ⟨List.mem_reverse.1 hx, hxn⟩
    rw [h0] at hm
    simp at hm
  rw [this]
  rfl
theorem lastOf_some {ws : List (Nat × Bytes)} {n : Nat} (h : waitsOf ws n ≠ 0) : ∃ b, lastOf ws n = some b ∧ (n, b) ∈ ws := by
  obtain ⟨x, hx, hxn⟩ := List.mem_map.1 (waitsOf_zero ws n h)
  cases hf : ws.reverse.find? (fun w => w.1 == n) with
  | none =>
    rw [List.find?_eq_none] at hf
    exact absurd (by simpa using hxn) (hf x (List.mem_reverse.2 hx))
  | some y =>
    have hy := List.find?_some hf
    have hm := List.mem_reverse.1 (List.mem_of_find?_eq_some hf)
    refine ⟨y.2, by rw [lastOf, hf]; rfl, ?_⟩
    have : y.1 = n := by simpa using hy
    rw [← this]
    exact hm

section
variable {w : World} {F : ShF} {s : ShM}
theorem read_len (hok : s.Ok) {d n : Nat} (hd : d < s.disks.length) (hn : n < s.sectors) : ((s.disk d).read n).length = 128 := by
  have hm : s.disk d ∈ s.disks := by rw [← s.disk_eq hd]; exact List.getElem_mem hd
  simp only [DiskM.read]
  by_cases h0 : waitsOf (s.disk d).waits n = 0
  · rw [waitsOf_none h0, Option.getD_none]
    have hl := hok.sure _ hm
    rw [List.getD_eq_getElem?_getD, List.getElem?_eq_getElem (by omega), Option.getD_some]
    exact hok.sec _ hm _ (List.getElem_mem _)
  · obtain ⟨b, hb, hbm⟩ := lastOf_some h0
    rw [hb, Option.getD_some]
    exact (hok.waits _ hm _ hbm).2

theorem sh_read (hS : ShAt w F s) (d n : Int) (hroom : (s.disk d.toNat).waits.length ≤ 1000000000000) :
    Calls Try.prog 24 #[.pointer (some ⟨F.g, 0, none⟩), .int .i64 d, .int .i64 n] w fun e w' =>
      ∃ v, e = .returned (.tuple #[v, .int .i64 (s.readR d n).2.1]) ∧ Fresh w w' v (s.readR d n).1 ∧ ShAt w' F (s.readR d n).2.2 ∧ Turns F.blocks w w' := by
  by_cases hh : s.has d n = true
  · obtain ⟨⟨hd0, hd1⟩, hn0, hn1⟩ := has_of hh
    obtain ⟨d, rfl⟩ := Int.eq_ofNat_of_zero_le hd0
    obtain ⟨n, rfl⟩ := Int.eq_ofNat_of_zero_le hn0
    have hd' : d < s.disks.length := by omega
    have hn' : n < s.sectors := by omega
    rw [Int.toNat_natCast] at hroom
    by_cases hw : s.why d = 0
    · rw [readR_of hh hw]
      have hrow : ∀ {w' : World} {v : Value} {bs : Bytes}, ReadRow w w' v bs → Fresh w w' v bs := by
        rintro w' v bs ⟨g, c, rfl, h1, h2⟩
        exact ⟨_, c, rfl, .inr ⟨g, rfl, h1, h2⟩⟩
      by_cases h0 : waitsOf (s.disk d).waits n = 0
      · have hrd : (s.disk d).read n = (s.disk d).sure.getD n [] := by simp only [DiskM.read, waitsOf_none h0, Option.getD_none]
        rw [hrd]
        refine (sh_read_sure hS d n hh hw h0 _ rfl).mono ?_
        rintro e w' ⟨v, h1, h2, h3, h4⟩
        exact ⟨v, h1, hrow h2, h3, h4⟩
      · obtain ⟨b, hb, _⟩ := lastOf_some h0
        have hrd : (s.disk d).read n = b := by simp only [DiskM.read, hb, Option.getD_some]
        rw [hrd]
        refine (sh_read_wait hS d n hh hw h0 hroom b hb).mono ?_
        rintro e w' ⟨v, h1, h2, h3, h4⟩
        exact ⟨v, h1, hrow h2, h3, h4⟩
    · have hr : s.readR (d : Int) (n : Int) = ([], s.why d, s) := by simp [ShM.readR, hh, hw]
      rw [hr]
      refine (sh_read_why hS d n hh hw).mono ?_
      rintro e w' ⟨h1, h2, h3⟩
      exact ⟨_, h1, Fresh.nil _ _, h2, h3⟩
  · have hr : s.readR d n = ([], 1, s) := by simp [ShM.readR, hh]
    rw [hr]
    refine (sh_read_has hS d n hh).mono ?_
    rintro e w' ⟨h1, h2⟩
    exact ⟨_, h1, Fresh.nil _ _, hS.below h2, Turns.of_below h2⟩

/-- a sector that begins with a byte -/
def secOf (b : UInt8) : Bytes := ((List.replicate 128 0).set 0 b).set 127 (b ^^^ 85)
theorem secOf_len (b : UInt8) : (secOf b).length = 128 := by simp [secOf]
set_option maxRecDepth 3000 in
theorem sector_any (b : UInt8) (w : World) : Calls Try.prog 22 #[.int .u8 (b.toNat : Int)] w fun e w' =>
    ∃ A c, e = .returned (.slice A 128 c) ∧ Own w' 5 w.heap.size (.slice A 128 c) (secOf b) ∧ Below w.heap.size w w' := by
  have hmb := run_make_rd (P := Try.prog) 28 5 Try.underlying28 Try.infoByte .i64 .i64 128 (by omega)
  rw [show ((128 : Nat) : Int) = 128 from rfl] at hmb
  obtain ⟨zs, hzs⟩ : ∃ zs : List UInt8, zs = List.replicate 128 0 := ⟨_, rfl⟩
  have hzl : zs.length = 128 := by rw [hzs]; simp
  rw [← hzs] at hmb
  have hmw := hmb w
  clear hmb
  have ho := Own.lit w 5 zs 128 hzl (by omega)
  have hB : Below w.heap.size w (w.alloc (.cells (bVs zs).toArray 5)) := (Below.refl _ _).alloc (Nat.le_refl _) _
  obtain ⟨g, hg, _, hg2, hcs⟩ := Own.first ho (by omega)
  injection hg with hg
  injection hg with hg
  subst hg
  have hxb := xor_byte8 b 85
  rw [show ((85 : UInt8).toNat : Int) = 85 from rfl] at hxb
  have c0 := (hcs 0 (by omega)).1
  have f0 := (hcs 0 (by omega)).2
  have e128 : zs.length = 128 := hzl
  have ho1 := ho
  rw [show (128 : Nat) = zs.length from hzl.symm] at ho1
  have ho2 := ho1.set 0 b
  have c1 := ho2.cellG 127 (by simp; omega)
  have f1 := ho2.frozenG 127
  have ho3 := ho2.set 127 (b ^^^ 85)
  have hB3 := (hB.setCell (p := ⟨w.heap.size, 0, none⟩) (Nat.le_refl _) (.int .u8 (b.toNat : Int))).setCell (p := ⟨w.heap.size, 127, none⟩) (Nat.le_refl _) (.int .u8 ((b ^^^ 85).toNat : Int))
  have hl3 : ((zs.set 0 b).set 127 (b ^^^ 85)).length = 128 := by simp [hzl]
  have hsec : (zs.set 0 b).set 127 (b ^^^ 85) = secOf b := by rw [hzs]; rfl
  rw [hl3, hsec] at ho3
  have hw1 : w.heap.size < (w.alloc (.cells (bVs zs).toArray 5)).heap.size := by simp
  rw [UInt8.toNat_xor] at ho3 hB3
  generalize w.alloc (.cells (bVs zs).toArray 5) = w1 at *
  replace hsec := Lib.hid hsec
  replace hl3 := Lib.hid hl3
  replace hzs := Lib.hid hzs
  replace hzl := Lib.hid hzl
  replace e128 := Lib.hid e128
  replace ho := Lib.hid ho
  replace ho1 := Lib.hid ho1
  replace ho2 := Lib.hid ho2
  replace ho3 := Lib.hid ho3
  replace hcs := Lib.hid hcs
  go_enter Try.func22, Try.ntmps22
  go_wp2
  go_ret
  refine ⟨some ⟨w.heap.size, 0, none⟩, 128, rfl, ?_, hB3⟩
  have h := ho3.out
  rw [hzl.out] at h
  exact h
end
end Go.Proofs.Ytikfbhepnnbdoaa
