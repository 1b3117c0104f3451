/-
  THE WALK over the law's own 'one': one call of a shelf.
-/
import Derived.Test.YtffdpipmfdkaoaaShX
import Derived.Test.YtffdpipmfdkaoaaShOp
namespace Go.Proofs.Ytffdpipmfdkaoaa
set_option linter.all false
open Go.RowKit

def oneM (s : ShM) (o : OpM) : ShM :=
  if o.kind = 1 then (s.readR o.d o.n).2.2 else if o.kind = 2 then (s.writeR o.d o.n (secOf o.with_)).2 else if o.kind = 3 then (s.flushR o.d).2
  else if o.kind = 4 then (s.killR o.d).2 else if o.kind = 5 then (s.corruptR o.d o.n o.at_ o.with_).2 else s

set_option maxRecDepth 10000 in
set_option maxHeartbeats 2000000 in
theorem one_lx {X : Nat → Prop} {g : Nat} {w : World} {s : ShM} (hS : ShX X g w s) (hroom : Room 1000000000000 s) (o : OpM) :
    Calls Try.prog 22 #[.pointer (some ⟨g, 0, none⟩), .agg (opCells o).toArray] w fun e w' => e = .returned (.tuple #[]) ∧ ShX X g w' (oneM s o) ∧ Kept X w w' := by
  obtain ⟨kind, d, n, at_, bx, keep, ka, kc⟩ := o
  unfold opCells oneM
  dsimp only
  have hkA : ∀ W', Below (w.heap.size + 1) (w.alloc (.cells #[.int .i64 kind, .int .i64 d, .int .i64 n, .int .i64 at_, .int .u8 (bx.toNat : Int), .slice ka keep.length kc] 31)) W' → Kept X w W' := fun W' h => Kept.of_below (((Below.refl _ _).alloc (Nat.le_refl _) _).trans (h.mono (Nat.le_succ _))) hS.lt
  by_cases h1 : kind = 1
  · subst h1
    rw [if_pos rfl]
    go_enter Try.func22, Try.ntmps22
    go_wp2_with fail
    refine (lx_read (hS.alloc _) d n (hroom.at_ _)).mono ?_
    rintro e w' ⟨v, rfl, _, r3, r4⟩
    go_wp2
    go_end0
    exact ⟨by simp, r3.mono fun b hb => .inl hb, (Kept.of_below ((Below.refl _ _).alloc (Nat.le_refl _) _) hS.lt).trans r4⟩
  have e1 : (kind == 1) = false := beq_eq_false_iff_ne.2 h1
  rw [if_neg h1]
  by_cases h2 : kind = 2
  · subst h2
    rw [if_pos rfl]
    clear h1
    go_enter Try.func22, Try.ntmps22
    go_wp2_with fail
    have hal := (Below.refl w.heap.size w).alloc (Nat.le_refl _) (.cells #[.int .i64 2, .int .i64 d, .int .i64 n, .int .i64 at_, .int .u8 (bx.toNat : Int), .slice ka keep.length kc] 31)
    have hA : ShX (fun b => X b ∨ b = w.heap.size) g (w.alloc (.cells #[.int .i64 2, .int .i64 d, .int .i64 n, .int .i64 at_, .int .u8 (bx.toNat : Int), .slice ka keep.length kc] 31)) s :=
      hS.more hal.size (fun b hb _ => hal.block b hb) fun b hb => by
        have h1 : (w.alloc (.cells #[.int .i64 2, .int .i64 d, .int .i64 n, .int .i64 at_, .int .u8 (bx.toNat : Int), .slice ka keep.length kc] 31)).heap.size = w.heap.size + 1 := by simp
        rcases hb with hb | hb
        · have := hS.lt b hb
          exact ⟨by omega, .inl hb⟩
        · exact ⟨by omega, .inr (by omega)⟩
    have hcs : Hid (∀ W', Kept (fun b => X b ∨ b = w.heap.size) (w.alloc (.cells #[.int .i64 2, .int .i64 d, .int .i64 n, .int .i64 at_, .int .u8 (bx.toNat : Int), .slice ka keep.length kc] 31)) W' → W'.cell? ⟨w.heap.size, 1, none⟩ = some (.int .i64 d) ∧ W'.cell? ⟨w.heap.size, 2, none⟩ = some (.int .i64 n) ∧ W'.cell? ⟨w.heap.size, 4, none⟩ = some (.int .u8 (bx.toNat : Int))) := Lib.hid fun W' hW => by
      refine ⟨?_, ?_, ?_⟩
      · rw [World.cell?_of_block (a := ⟨w.heap.size, 1, none⟩) (hW.block _ (.inr rfl))]; go_simp
      · rw [World.cell?_of_block (a := ⟨w.heap.size, 2, none⟩) (hW.block _ (.inr rfl))]; go_simp
      · rw [World.cell?_of_block (a := ⟨w.heap.size, 4, none⟩) (hW.block _ (.inr rfl))]; go_simp
    go_region_held3 (fun w' => w'.cell? ⟨w.heap.size, 1, none⟩ = some (.int .i64 d) ∧ w'.cell? ⟨w.heap.size, 2, none⟩ = some (.int .i64 n) ∧ w'.cell? ⟨w.heap.size, 4, none⟩ = some (.int .u8 (bx.toNat : Int)))
      (first | assumption | exact hcs.out _ (Kept.drew _ _) | exact hcs.out _ hB9 | exact hcs.out _ ((Kept.drew _ _).trans hK10))
      (first
        | (go_at_call 13; with_reducible refine (sector_any bx _).mono ?_; rintro e wx ⟨A9, c9, rfl, ho9, hb9⟩; have hB9 := (Kept.drew (fun b => X b ∨ b = w.heap.size) _).trans (Kept.of_below hb9 hA.drew.lt))
        | (go_at_call 12; with_reducible refine (lx_write hA.drew hb9 d n A9 128 c9 (secOf bx) _ ho9 (secOf_len bx) (hroom.at_ _)).mono ?_; rintro e wy ⟨rfl, hS10, hK10⟩))
    all_goals
      go_wp2
      go_end0
      exact ⟨by simp, hS10.mono fun b hb => .inl hb, (Kept.of_below hal hS.lt).trans (((Kept.drew _ _).trans hK10).mono fun b hb => .inl hb)⟩
  have e2 : (kind == 2) = false := beq_eq_false_iff_ne.2 h2
  rw [if_neg h2]
  by_cases h3 : kind = 3
  · subst h3
    rw [if_pos rfl]
    clear h1 h2
    go_enter Try.func22, Try.ntmps22
    go_wp2_with fail
    refine (lx_flush (hS.alloc _) d).mono ?_
    rintro e w' ⟨rfl, r3, r4⟩
    go_wp2
    go_end0
    exact ⟨by simp, r3, (Kept.of_below ((Below.refl _ _).alloc (Nat.le_refl _) _) hS.lt).trans r4⟩
  have e3 : (kind == 3) = false := beq_eq_false_iff_ne.2 h3
  rw [if_neg h3]
  by_cases h4 : kind = 4
  · subst h4
    rw [if_pos rfl]
    clear h1 h2 h3
    go_enter Try.func22, Try.ntmps22
    go_wp2_with fail
    refine (lx_kill (hS.alloc _) d).mono ?_
    rintro e w' ⟨rfl, r3, r4⟩
    go_wp2
    go_end0
    exact ⟨by simp, r3, (Kept.of_below ((Below.refl _ _).alloc (Nat.le_refl _) _) hS.lt).trans r4⟩
  have e4 : (kind == 4) = false := beq_eq_false_iff_ne.2 h4
  rw [if_neg h4]
  by_cases h5 : kind = 5
  · subst h5
    rw [if_pos rfl]
    clear h1 h2 h3 h4
    go_enter Try.func22, Try.ntmps22
    go_wp2_with fail
    refine (lx_corrupt (hS.alloc _) d n at_ bx).mono ?_
    rintro e w' ⟨rfl, r3, r4⟩
    go_wp2
    go_end0
    exact ⟨by simp, r3, (Kept.of_below ((Below.refl _ _).alloc (Nat.le_refl _) _) hS.lt).trans r4⟩
  have e5 : (kind == 5) = false := beq_eq_false_iff_ne.2 h5
  rw [if_neg h5]
  clear h1 h2 h3 h4 h5
  go_enter Try.func22, Try.ntmps22
  go_wp2
  go_end0
  exact ⟨by simp, hS.alloc _, Kept.of_below ((Below.refl _ _).alloc (Nat.le_refl _) _) hS.lt⟩
end Go.Proofs.Ytffdpipmfdkaoaa
