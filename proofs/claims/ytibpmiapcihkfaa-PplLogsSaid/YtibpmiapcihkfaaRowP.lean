/-
  From a walk to a row: a record that came in by value.
-/
import Derived.Test.YtibpmiapcihkfaaRowO
import Derived.Test.YtibpmiapcihkfaaPpM
namespace Go.Proofs.Ytibpmiapcihkfaa
set_option linter.all false
open Go.ChangeShapes Go.WideShapes Go.ChangeAt Go.RowKit Go.Deep

section
variable {H : Type} {enc : TypeId × Value → H} {w : World} {base : Nat} {spare : Nat → Bool} {held : Bool}
set_option maxRecDepth 100000 in
theorem open_rec {r : Reach} {b0 : Nat} {v : Value} {d : DataW H} {p : List MemPlace} (hv : Value.okWide Try.prog w r b0 24 v) (h : DataW.Trod enc Try.prog w base spare held 24 v d p) :
    ∃ (q : Rec) (A : Option Addr) (n c : Nat), v = .agg #[.int .i64 q.stripe, .int .i64 q.place, .slice A n c] ∧ Rd w A q.part ∧ q.part.length = n ∧ (∀ ad, A = some ad → 0 < n → ad.block < w.heap.size) ∧
      ∃ parts d2, d = .agg parts ∧ parts[2]? = some d2 ∧ ((d2 = .nil ∧ n = 0) ∨ ∃ elems sp, d2 = .slice elems sp ∧ elems.length = n) := by
  obtain ⟨cs, rfl, hsz⟩ := okWide_struct Try.underlying24 hv
  obtain ⟨fuel, hf⟩ := h
  obtain ⟨xs, n, _, hx, _, hlen, hg⟩ := DataW.trod_struct Try.underlying24 hf
  obtain ⟨l⟩ := cs
  have hll : l.length = 3 := hsz
  match l, hll, xs, hlen with
  | [v0, v1, v2], _, [x0, x1, x2], _ =>
    have t0 := hg 0 _ rfl
    have t1 := hg 1 _ rfl
    have t2 := hg 2 _ rfl
    obtain ⟨z0, h0, _, _⟩ := DataW.trod_int (k := .i64) (cs := [v0]) (by kernel_rfl) (by exact t0)
    obtain ⟨z1, h1, _, _⟩ := DataW.trod_int (k := .i64) (cs := [v1]) (by kernel_rfl) (by exact t1)
    injection h0 with h0
    injection h1 with h1
    subst h0 h1
    have t2' : DataW.trod enc Try.prog w base spare held n 22 [v2] = some x2 := t2
    have hv2 : ∃ A m c, v2 = .slice A m c := by
      rcases open_ints Try.underlying22 Try.underlying5 (by kernel_rfl) t2' with ⟨hcs, _⟩ | ⟨a, len, cap, _, hcs, _⟩
      · injection hcs with hcs
        exact ⟨_, _, _, hcs⟩
      · injection hcs with hcs
        exact ⟨_, _, _, hcs⟩
    obtain ⟨A, m, c, rfl⟩ := hv2
    obtain ⟨bs, hr, hl, hd⟩ := open_bytes (d := x2.1) (ps := x2.2) Try.underlying22 Try.underlying5 (by kernel_rfl) ⟨n, t2'⟩
    refine ⟨⟨z0, z1, bs⟩, A, m, c, rfl, hr, hl, fun ad e hm => ?_, [x0.1, x1.1, x2.1], x2.1, ?_, rfl, hd⟩
    · have := World.block_lt_of_cell? w _ (hr.2.2 ad e 0 (by omega))
      rwa [add_block] at this
    · have := congrArg Prod.fst hx
      simpa using this
theorem sized_rec {P : Program} {ts : List TypeId} {ds : List (DataW H)} (h : (DataW.weightsEach P ts ds).all (· ≤ reachBytes) = true) {j : Nat} {t t2 e : TypeId} {fs : Array Field} (ht : ts[j]? = some t) {d : DataW H} (hd : ds[j]? = some d) (hu : P.underlying t = some (.struct fs))
    (h2 : (fs.toList.map (·.type))[2]? = some t2) (hu2 : P.underlying t2 = some (.slice e)) (hb : P.bytesOf e = 1) {n : Nat}
    (hn : ∃ parts d2, d = .agg parts ∧ parts[2]? = some d2 ∧ ((d2 = .nil ∧ n = 0) ∨ ∃ elems sp, d2 = .slice elems sp ∧ elems.length = n)) : n ≤ 140737488351232 := by
  obtain ⟨parts, d2, rfl, hp, hn⟩ := hn
  have hw : (DataW.weightsEach P (fs.toList.map (·.type)) parts).all (· ≤ reachBytes) = true := List.all_eq_true.2 fun x hx => List.all_eq_true.1 h x (DataW.weights_mem_each ht hd x (by simp only [DataW.weights, hu]; exact hx))
  exact sized_bytes hw h2 hp hu2 hb hn
end
end Go.Proofs.Ytibpmiapcihkfaa
