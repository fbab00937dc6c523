/- Weights fetched from pages, walked: the program's. Conditions: the pool is whole; the pages are read in a slice. -/
import Derived.Test.YtelmolblcnolnaaPlaceW
namespace Go.Proofs.Ytelmolblcnolnaa
open Go.RowKit Go.Shelf
attribute [local go_sem] Oper.semAt_some

def gotV (s : Pl) (L : List Int) (k : Nat) : Int := s.get (L.getD (k / 32) 0) ((k % 32 : Nat) : Int)
def badE (s : Pl) (L : List Int) (k : Nat) : Int := if s.cellE (L.getD (k / 32) 0) ((k % 32 : Nat) : Int) ≠ 0 then s.cellE (L.getD (k / 32) 0) ((k % 32 : Nat) : Int) else if gotV s L k < -128 ∨ 127 < gotV s L k then 20 else 0
/-- the first fault on the way -/
def fetchE (s : Pl) (L : List Int) (n : Nat) : Int := (((List.range n).map (badE s L)).find? (fun e => e != 0)).getD 0
def setsL (s : Pl) (L row : List Int) (ks : List Nat) : List Int := ks.foldl (fun r k => r.set k (gotV s L k)) row
theorem setsL_snoc (s : Pl) (L row : List Int) (ks : List Nat) (k : Nat) : setsL s L row (ks ++ [k]) = (setsL s L row ks).set k (gotV s L k) := by simp [setsL]
theorem setsL_length (s : Pl) (L : List Int) : ∀ (ks : List Nat) (row : List Int), (setsL s L row ks).length = row.length
  | [], _ => rfl
  | k :: ks, row => by
    show (setsL s L (row.set k (gotV s L k)) ks).length = _
    rw [setsL_length s L ks, List.length_set]
theorem setsL_range (s : Pl) (L : List Int) (n : Nat) : ∀ k, k ≤ n → setsL s L (List.replicate n 0) (List.range k) = (List.range k).map (gotV s L) ++ List.replicate (n - k) 0
  | 0, _ => by simp [setsL]
  | k + 1, h => by
    rw [List.range_succ, setsL_snoc, setsL_range s L n k (by omega), List.map_append]
    obtain ⟨q, hq⟩ : ∃ q, n - k = q + 1 := ⟨n - k - 1, by omega⟩
    have e : n - (k + 1) = q := by omega
    rw [hq, e, List.replicate_succ, List.set_append_right _ _ (by simp)]
    simp
def rowB (d : List Int) : Array Value := (d.map (Value.int .i8)).toArray
theorem Try.infoI8f : (Try.prog.info? 73).map (fun i => (i.zero, i.size, i.bytes)) = some (some (.int .i8 0), 1, 1) := by kernel_rfl
theorem make_i8s (w : World) (n : Nat) (hn : n ≤ 4294967296) : (Instr.makeSlice 54 (.int .i64 (n : Int)) (.int .i64 (n : Int))).run Try.prog w = .ok (.slice (some ⟨w.heap.size, 0, none⟩) n n) (w.alloc (.cells (rowB (List.replicate n 0)) 73)) := by
  obtain ⟨i0, hi0, hz0, hz1, hz2⟩ := info_parts Try.infoI8f
  have h := run_make (P := Try.prog) w 54 73 i0 _ Try.underlying54 hi0 hz0 .i64 .i64 (n : Int) (n : Int) (by omega) (by omega) (by rw [hz2]; omega) (by omega)
  have e : madeCells (Value.cells (.int .i8 0)) ((n : Int).toNat * i0.size) = rowB (List.replicate n 0) := by
    rw [hz1, Nat.mul_one, Int.toNat_natCast]
    apply Array.ext
    · simp [madeCells, rowB]
    · intro j h1 h2
      simp [madeCells, rowB, Value.cells, Nat.mod_one]
  rw [h, e, Int.toNat_natCast]
theorem wrap_i8_ (n : Int) : IntKind.i8.wrap n = (n + 128) % 256 - 128 := by
  simp [IntKind.wrap, IntKind.bits, IntKind.signed]
  split <;> omega
theorem own_rowB {w : World} {base b n : Nat} {t : TypeId} {d : List Int} (h : Blk w b t (rowB d)) (hb : base ≤ b) (hn : d.length = n) (hm : n ≤ maxLen) : w.ownsRow base t 1 (.slice (some ⟨b, 0, none⟩) n n) n (d.map (Value.int .i8)) := by
  subst hn
  refine ⟨by simp, .inr ⟨b, d.length, rowB d, rfl, hb, h, Nat.le_refl _, hm, by simp [rowB], by simp only [rowB]; exact List.take_of_length_le (by simp)⟩⟩
theorem fetchE_ok {s : Pl} {L : List Int} {n : Nat} (h : ∀ k, k < n → badE s L k = 0) : fetchE s L n = 0 := by
  unfold fetchE
  rw [List.find?_eq_none.2]
  · rfl
  · intro e he
    obtain ⟨k, hk, rfl⟩ := List.mem_map.1 he
    rw [h k (List.mem_range.1 hk)]
    decide
theorem fetchE_first {s : Pl} {L : List Int} {n x : Nat} (hx : x < n) (h : ∀ k, k < x → badE s L k = 0) (hb : badE s L x ≠ 0) : fetchE s L n = badE s L x := by
  unfold fetchE
  obtain ⟨q, rfl⟩ : ∃ q, n = x + 1 + q := ⟨n - (x + 1), by omega⟩
  rw [List.range_add, List.map_append, List.range_succ, List.map_append, List.append_assoc, List.find?_append, List.find?_eq_none.2]
  · simp [hb]
  · intro e he
    obtain ⟨k, hk, rfl⟩ := List.mem_map.1 he
    rw [h k (List.mem_range.1 hk)]
    decide
theorem blk_at {w : World} {t : TypeId} {cs : Array Value} {k : Nat} (h : w.heap.size = k) : Blk (w.alloc (.cells cs t)) k t cs := h ▸ Blk.new w t cs
def FetchPost (w : World) (E : Int) (l : List Int) (e : Ending) (w' : World) : Prop :=
  ∃ v, e = .returned (.tuple #[v, .int .i64 E]) ∧ Below w.heap.size w w' ∧ (E = 0 → w'.ownsRow w.heap.size 73 1 v l.length (l.map (Value.int .i8))) ∧ (E ≠ 0 → v = .slice none 0 0)
set_option maxRecDepth 100000 in
set_option maxHeartbeats 3200000 in
theorem fetch_run {w : World} {b bq : Nat} {s : Pl} (h : PoolAt w b bq s) (hl : s.pages.length ≤ 256) {B : Nat} {A : Option Addr} {m c : Nat} {L : List Int} (hp : RdI w B .i64 (.slice A m c) L) (hm : m ≤ 1048576) {n : Nat} (hn : (n + 31) / 32 ≤ m) :
    Calls Try.prog 35 #[.pointer (some ⟨b, 0, none⟩), .slice A m c, .int .i64 n] w (FetchPost w (fetchE s L n) ((List.range n).map (gotV s L))) := by
  have HN := fun (w1 : World) => hid_ (need_any (n : Int) w1 (by unfold InI; omega))
  have HMK := fun W => make_i8s W n (by omega)
  have hne : needV (n : Int) = (((n + 31) / 32 : Nat) : Int) := need_eq n
  rw [hne] at HN
  have g1 : ¬ (m : Int) < (((n + 31) / 32 : Nat) : Int) := by omega
  have g1' : ¬ m < (n + 31) / 32 := by omega
  obtain ⟨nd, hnd⟩ : ∃ nd : Nat, (n + 31) / 32 = nd := ⟨_, rfl⟩
  rw [hnd] at HN g1 g1'
  have HND := hid_ hnd
  clear hne hnd hn
  refine (callsIn_wide (n := 3)).1 ?_
  refine callsIn_of_wp_marks Try.func35 rfl trivial ?_ rfl
  simp only [Try.ntmps35, List.size_toArray, List.length_cons, List.length_nil, Nat.reduceAdd, Nat.reduceSub, Array.replicate_succ, Array.replicate_zero, List.push_toArray, List.append_toArray, List.nil_append, List.cons_append]
  gi_wp2_with (first
    | (refine ⟨trivial, ?_⟩; gi_at_call 38; refine (callsIn_wide.2 (HN _).out).mono ?_; rintro e w1 ⟨rfl, rfl⟩)
    | (refine ⟨trivial, ?_⟩; gi_at_call 77; refine (callsIn_wide.2 (places_any _ _ _ _ _)).mono ?_; rintro e w2 ⟨rfl, rfl⟩))
  have b0 : Blk (((((((w.alloc (.cells #[.pointer (some ⟨b, 0, none⟩)] 25)).alloc (.cells #[.slice none 0 0] 54)).alloc (.cells #[.int .i64 0] 26)).alloc (.cells (rowB (List.replicate n 0)) 73)).alloc (.cells #[.slice (some ⟨w.heap.size + 1 + 1 + 1, 0, none⟩) n n] 54)).alloc (.cells #[.slice A m c] 33)).alloc (.cells #[.int .i64 n] 3)) (w.heap.size + 0) 25 #[.pointer (some ⟨b, 0, none⟩)] := (((((((blk_at (by simp)).alloc _).alloc _).alloc _).alloc _).alloc _).alloc _)
  have b1 : Blk (((((((w.alloc (.cells #[.pointer (some ⟨b, 0, none⟩)] 25)).alloc (.cells #[.slice none 0 0] 54)).alloc (.cells #[.int .i64 0] 26)).alloc (.cells (rowB (List.replicate n 0)) 73)).alloc (.cells #[.slice (some ⟨w.heap.size + 1 + 1 + 1, 0, none⟩) n n] 54)).alloc (.cells #[.slice A m c] 33)).alloc (.cells #[.int .i64 n] 3)) (w.heap.size + 1) 54 #[.slice none 0 0] := ((((((blk_at (by simp)).alloc _).alloc _).alloc _).alloc _).alloc _)
  have b2 : Blk (((((((w.alloc (.cells #[.pointer (some ⟨b, 0, none⟩)] 25)).alloc (.cells #[.slice none 0 0] 54)).alloc (.cells #[.int .i64 0] 26)).alloc (.cells (rowB (List.replicate n 0)) 73)).alloc (.cells #[.slice (some ⟨w.heap.size + 1 + 1 + 1, 0, none⟩) n n] 54)).alloc (.cells #[.slice A m c] 33)).alloc (.cells #[.int .i64 n] 3)) (w.heap.size + 2) 26 #[.int .i64 0] := (((((blk_at (by simp)).alloc _).alloc _).alloc _).alloc _)
  have b3 : Blk (((((((w.alloc (.cells #[.pointer (some ⟨b, 0, none⟩)] 25)).alloc (.cells #[.slice none 0 0] 54)).alloc (.cells #[.int .i64 0] 26)).alloc (.cells (rowB (List.replicate n 0)) 73)).alloc (.cells #[.slice (some ⟨w.heap.size + 1 + 1 + 1, 0, none⟩) n n] 54)).alloc (.cells #[.slice A m c] 33)).alloc (.cells #[.int .i64 n] 3)) (w.heap.size + 3) 73 (rowB (List.replicate n 0)) := ((((blk_at (by simp)).alloc _).alloc _).alloc _)
  have b4 : Blk (((((((w.alloc (.cells #[.pointer (some ⟨b, 0, none⟩)] 25)).alloc (.cells #[.slice none 0 0] 54)).alloc (.cells #[.int .i64 0] 26)).alloc (.cells (rowB (List.replicate n 0)) 73)).alloc (.cells #[.slice (some ⟨w.heap.size + 1 + 1 + 1, 0, none⟩) n n] 54)).alloc (.cells #[.slice A m c] 33)).alloc (.cells #[.int .i64 n] 3)) (w.heap.size + 4) 54 #[.slice (some ⟨w.heap.size + 1 + 1 + 1, 0, none⟩) n n] := (((blk_at (by simp)).alloc _).alloc _)
  have b5 : Blk (((((((w.alloc (.cells #[.pointer (some ⟨b, 0, none⟩)] 25)).alloc (.cells #[.slice none 0 0] 54)).alloc (.cells #[.int .i64 0] 26)).alloc (.cells (rowB (List.replicate n 0)) 73)).alloc (.cells #[.slice (some ⟨w.heap.size + 1 + 1 + 1, 0, none⟩) n n] 54)).alloc (.cells #[.slice A m c] 33)).alloc (.cells #[.int .i64 n] 3)) (w.heap.size + 5) 33 #[.slice A m c] := ((blk_at (by simp)).alloc _)
  have b6 : Blk (((((((w.alloc (.cells #[.pointer (some ⟨b, 0, none⟩)] 25)).alloc (.cells #[.slice none 0 0] 54)).alloc (.cells #[.int .i64 0] 26)).alloc (.cells (rowB (List.replicate n 0)) 73)).alloc (.cells #[.slice (some ⟨w.heap.size + 1 + 1 + 1, 0, none⟩) n n] 54)).alloc (.cells #[.slice A m c] 33)).alloc (.cells #[.int .i64 n] 3)) (w.heap.size + 6) 3 #[.int .i64 n] := (blk_at (by simp))
  have hu7 : Upd (fun _ => False) w (((((((w.alloc (.cells #[.pointer (some ⟨b, 0, none⟩)] 25)).alloc (.cells #[.slice none 0 0] 54)).alloc (.cells #[.int .i64 0] 26)).alloc (.cells (rowB (List.replicate n 0)) 73)).alloc (.cells #[.slice (some ⟨w.heap.size + 1 + 1 + 1, 0, none⟩) n n] 54)).alloc (.cells #[.slice A m c] 33)).alloc (.cells #[.int .i64 n] 3)) := ((((((((Upd.refl _ w).alloc _).alloc _).alloc _).alloc _).alloc _).alloc _).alloc _)
  have hsz : (((((((w.alloc (.cells #[.pointer (some ⟨b, 0, none⟩)] 25)).alloc (.cells #[.slice none 0 0] 54)).alloc (.cells #[.int .i64 0] 26)).alloc (.cells (rowB (List.replicate n 0)) 73)).alloc (.cells #[.slice (some ⟨w.heap.size + 1 + 1 + 1, 0, none⟩) n n] 54)).alloc (.cells #[.slice A m c] 33)).alloc (.cells #[.int .i64 n] 3)).heap.size = w.heap.size + 7 := by simp
  generalize (((((((w.alloc (.cells #[.pointer (some ⟨b, 0, none⟩)] 25)).alloc (.cells #[.slice none 0 0] 54)).alloc (.cells #[.int .i64 0] 26)).alloc (.cells (rowB (List.replicate n 0)) 73)).alloc (.cells #[.slice (some ⟨w.heap.size + 1 + 1 + 1, 0, none⟩) n n] 54)).alloc (.cells #[.slice A m c] 33)).alloc (.cells #[.int .i64 n] 3)) = w7 at *
  have HSZ := hid_ hsz
  clear hsz
  have hpw := rdi_below hp hu7.toB
  have hpl := (rdi_len hp).1
  have hbl := Blk.lt h.hb
  have hql := Blk.ex_lt h.tq
  have hP7 : PoolAt w7 b bq s := PoolMem.upd h hu7 (fun h => h) (fun h => h)
  refine wpIn_rangeFunc_ownH rfl (by decide) (gf := 92) (lb := #[.pointer (some ⟨w.heap.size + 1 + 1 + 1 + 1 + 1 + 1, 0, none⟩), .pointer (some ⟨w.heap.size + 1 + 1 + 1 + 1 + 1, 0, none⟩)]) rfl trivial (enters_of Try.func92 (by kernel_rfl) rfl)
    (places_stops 2 (by decide) (w.heap.size + 6) (w.heap.size + 5) (fun k => k = w.heap.size + 3) n m c A L w7 (by have := HSZ.out; omega) ⟨by have := HSZ.out; omega, by omega⟩ ((b6.cell 0).trans rfl) ((b5.cell 0).trans rfl) ?hL (by have := HND.out; omega))
    KpS.trans (fun W l o o' hl _ _ _ => KpS.put W l o' hl) (Below.refl _ _) (fun _ => rfl)
    (fun pre W => Upd (fun k => k = w.heap.size + 3) w7 W ∧ Blk W (w.heap.size + 3) 73 (rowB (setsL s L (List.replicate n 0) (pre.map Fin.val))) ∧ (∀ k ∈ pre.map Fin.val, badE s L k = 0))
    (fun cc pre W => cc = .ret ∧ Upd (fun k => k = w.heap.size + 3 ∨ k = w.heap.size + 1 ∨ k = w.heap.size + 2) w7 W ∧ ∃ (p' : List (Fin n)) (x : Fin n), pre = p' ++ [x] ∧ (∀ k ∈ p'.map Fin.val, badE s L k = 0) ∧ badE s L x.val ≠ 0 ∧ W.cell? ⟨w.heap.size + 1, 0, none⟩ = some (.slice none 0 0) ∧ W.cell? ⟨w.heap.size + 2, 0, none⟩ = some (.int .i64 (badE s L x.val)))
    ?hI ?hIx ⟨Upd.refl _ _, b3, fun k hk => by cases hk⟩
    (fun x a' W => ∃ Bx, w7.heap.size ≤ Bx ∧ Blk W Bx 116 #[.int .i64 (L[x.val / 32]?.getD 0), .int .i64 ((x.val : Int) % 32)] ∧ a' = { tmps := #[.pointer (some ⟨b, 0, none⟩), .slice A m c, .int .i64 n, .pointer (some ⟨w.heap.size, 0, none⟩), undef, undef, .pointer (some ⟨w.heap.size + 1, 0, none⟩), .pointer (some ⟨w.heap.size + 1 + 1, 0, none⟩), .pointer (some ⟨w.heap.size + 1 + 1 + 1 + 1, 0, none⟩), .int .i64 (x.val : Int), .pointer (some ⟨Bx, 0, none⟩), undef, undef, .int .i64 n, .bool (decide ((n : Int) < 0)), .bool (decide ((n : Int) < 0)), .int .i64 n, .int .i64 nd, .slice A m c, .int .i64 m, .bool false, .bool (decide ((n : Int) < 0)), .int .i64 n, .slice (some ⟨w.heap.size + 1 + 1 + 1, 0, none⟩) n n, .slice A m c, .int .i64 n, .func (.func 92) #[] #[.pointer (some ⟨w.heap.size + 1 + 1 + 1 + 1 + 1 + 1, 0, none⟩), .pointer (some ⟨w.heap.size + 1 + 1 + 1 + 1 + 1, 0, none⟩)], .int .i64 (x.val : Int), .agg #[.int .i64 (L[x.val / 32]?.getD 0), .int .i64 ((x.val : Int) % 32)], undef, undef, undef, undef, undef, undef, undef, undef, undef, undef, undef, undef, undef, undef, undef, undef, undef, undef, undef, undef, undef, undef, undef, undef, undef, undef], defers := [] })
    (fun x a' _ X Y row hs hg hr => ?hAx) ?assign ?body ?done ?stop
  case hL =>
    intro i hi
    have hi32 : i / 32 < m := by have := HND.out; omega
    obtain ⟨b1, o1, e9, d0⟩ := rdi_cell hp (j := i / 32) (by omega)
    have hb1 := World.block_lt_of_cell? _ _ d0
    subst e9
    refine ⟨hi32, b1, o1, rfl, by have := HSZ.out; simp at hb1; omega, by simp at hb1; omega, ?_⟩
    rw [← List.getD_eq_getElem?_getD]
    exact (hu7.cell (p := ⟨b1, o1 + i / 32, none⟩) hb1 (fun h => h)).trans d0
  case hI =>
    intro pre X Y row hs hg hr
    refine ⟨hs.1.grown hg (fun k hk => .inr (hr k hk).1), (hg.block _ hs.2.1.lt (fun e => ?_)).trans hs.2.1, hs.2.2⟩
    have := (hr _ e.symm).1
    have := HSZ.out
    omega
  case hIx =>
    intro cc pre X Y row hs hg hr
    obtain ⟨h1, h2, p', x, h3, h4, h5, h6, h7⟩ := hs
    have hkeep : ∀ k, k < w.heap.size + 7 → k < X.heap.size → Y.heap[k]? = X.heap[k]? := fun k hk hk2 => hg.block k hk2 (fun e => by have := (hr _ e.symm).1; have := HSZ.out; omega)
    refine ⟨h1, h2.grown hg (fun k hk => .inr (hr k hk).1), p', x, h3, h4, h5, ?_, ?_⟩
    · exact (World.cell?_of_block (w := X) (a := ⟨w.heap.size + 1, 0, none⟩) (hkeep (w.heap.size + 1) (by omega) (World.block_lt_of_cell? _ _ h6))).trans h6
    · exact (World.cell?_of_block (w := X) (a := ⟨w.heap.size + 2, 0, none⟩) (hkeep (w.heap.size + 2) (by omega) (World.block_lt_of_cell? _ _ h7))).trans h7
  case hAx =>
    obtain ⟨Bx, h1, h2, h3⟩ := hs
    refine ⟨Bx, h1, (hg.block Bx h2.lt (fun e => ?_)).trans h2, h3⟩
    obtain ⟨_, o, ho, hc⟩ := hr Bx e.symm
    rw [show X.heap[Bx]? = _ from h2] at ho
    cases ho
    cases hc
  case assign =>
    intro l pre x W K hI hK
    gi_wp2
    have hle : w7.heap.size ≤ W.heap.size := hI.1.size
    exact hK _ _ ((KeepsOthers.alloc _ _).from _) (KpS.of_upd ((Upd.refl _ W).alloc _) hle) ⟨hI.1.alloc _, hI.2.1.alloc _, hI.2.2⟩ ⟨W.heap.size, hle, Blk.new W _ _, rfl⟩
  case body =>
    rintro l pre x a' W hl9 ⟨r9, hr9⟩ ⟨hU, hbk, hok⟩ ⟨Bx, hBx, hbx, rfl⟩ hlt
    have hle : w7.heap.size ≤ W.heap.size := hU.size
    have hS9 := HSZ.out
    have q0 : W.cell? ⟨w.heap.size, 0, none⟩ = some (.pointer (some ⟨b, 0, none⟩)) := (hU.cell (p := ⟨w.heap.size, 0, none⟩) (by show w.heap.size < _; omega) (by show ¬ w.heap.size = _; omega)).trans ((b0.cell 0).trans rfl)
    have e0 : W.cell? ⟨Bx, 0, none⟩ = some (.int .i64 (L[x.val / 32]?.getD 0)) := (hbx.cell 0).trans rfl
    have e1 : W.cell? ⟨Bx, 1, none⟩ = some (.int .i64 ((x.val : Int) % 32)) := (hbx.cell 1).trans rfl
    have hUW : Upd (fun k => k = w.heap.size + 3) w W := (hu7.mono (fun _ _ h => h.elim)).trans hU
    have hPW : PoolAt W b bq s := PoolMem.upd h hUW (by omega) (by omega)
    have hg := get_any hPW hl (L[x.val / 32]?.getD 0) ((x.val : Int) % 32)
    have eg : s.get (L[x.val / 32]?.getD 0) ((x.val : Int) % 32) = gotV s L x.val := by rw [gotV, List.getD_eq_getElem?_getD]; rfl
    have hbad : badE s L x.val = if s.cellE (L[x.val / 32]?.getD 0) ((x.val : Int) % 32) ≠ 0 then s.cellE (L[x.val / 32]?.getD 0) ((x.val : Int) % 32) else if gotV s L x.val < -128 ∨ 127 < gotV s L x.val then 20 else 0 := by rw [badE, List.getD_eq_getElem?_getD]; rfl
    rw [eg] at hg
    have r1 := (b1.upd hU (by omega))
    have r2 := (b2.upd hU (by omega))
    have z1 : W.cell? ⟨w.heap.size + 1, 0, none⟩ = some (.slice none 0 0) := (r1.cell 0).trans rfl
    have z2 : W.cell? ⟨w.heap.size + 1 + 1, 0, none⟩ = some (.int .i64 0) := (r2.cell 0).trans rfl
    have y1 : W.frozen? ⟨w.heap.size + 1, 0, none⟩ = false := r1.frozen 0
    have y2 : W.frozen? ⟨w.heap.size + 1 + 1, 0, none⟩ = false := r2.frozen 0
    have HU := hid_ hU
    have HBK := hid_ hbk
    have HOK := hid_ hok
    have HBAD := hid_ hbad
    generalize s.cellE (L[x.val / 32]?.getD 0) ((x.val : Int) % 32) = ce at *
    obtain ⟨gv, hgv⟩ : ∃ gv, gotV s L x.val = gv := ⟨_, rfl⟩
    rw [hgv] at hg HBAD
    have HGV := hid_ hgv
    have HG := hid_ hg
    clear hg hbk hok hbad eg hgv hPW hUW r1 r2 hbx
    by_cases hce : ce = 0
    · subst hce
      by_cases hv : gv < -128 ∨ 127 < gv
      · have hE : badE s L x.val = 20 := by rw [HBAD.out, if_neg (by simp), if_pos hv]
        have hs2 : (gv < -128) ∨ (¬ gv < -128 ∧ 127 < gv) := by omega
        have HE := hid_ hE
        clear hv hE
        rcases hs2 with v1 | ⟨v1, v2⟩ <;>
        · gi_wp2_with (refine ⟨trivial, ?_⟩; gi_at_call 27; refine (CallsIn.inRound l (callsIn_wide.2 HG.out)).mono ?_; rintro e w3 ⟨rfl, rfl⟩)
          refine show KeepsFrom w7.heap.size W _ ∧ (Code.ret = Code.ret ∧ Upd (fun k => k = w.heap.size + 3 ∨ k = w.heap.size + 1 ∨ k = w.heap.size + 2) w7 _ ∧ _) from ⟨((KeepsOthers.setCell _ _ _).trans (KeepsOthers.setCell _ _ _)).from _, rfl, ((HU.out.mono (fun _ _ h9 => .inl h9)).setCell (p := ⟨w.heap.size + 1, 0, none⟩) (.inl (.inr (.inl rfl))) _).setCell (p := ⟨w.heap.size + 1 + 1, 0, none⟩) (.inl (.inr (.inr rfl))) _, pre, x, rfl, HOK.out, by rw [HE.out]; decide, ?_, ?_⟩
          · exact (World.cell?_setCell_other _ _ _ _ (by simp)).trans (World.cell?_setCell_same' _ _ _ (by rw [z1]; rfl))
          · rw [HE.out]
            exact World.cell?_setCell_same' _ _ _ (by rw [World.cell?_setCell_other _ _ _ _ (by simp), z2]; rfl)
      · have hE : badE s L x.val = 0 := by rw [HBAD.out, if_neg (by simp), if_neg hv]
        have v1 : ¬ gv < -128 := by omega
        have v2 : ¬ 127 < gv := by omega
        have v3 : IntKind.i8.wrap gv = gv := by rw [wrap_i8_]; omega
        have r4 := (b4.upd HU.out (by omega))
        have q4 : W.cell? ⟨w.heap.size + 1 + 1 + 1 + 1, 0, none⟩ = some (.slice (some ⟨w.heap.size + 1 + 1 + 1, 0, none⟩) n n) := (r4.cell 0).trans rfl
        have hrl : (setsL s L (List.replicate n 0) (pre.map Fin.val)).length = n := by rw [setsL_length, List.length_replicate]
        have hxl := x.isLt
        have rc : W.cell? ⟨w.heap.size + 1 + 1 + 1, x.val, none⟩ = some (.int .i8 ((setsL s L (List.replicate n 0) (pre.map Fin.val)).getD x.val 0)) := by
          rw [HBK.out.cell, rowB, List.getElem?_toArray, List.getElem?_map, List.getElem?_eq_getElem (by omega), List.getD_eq_getElem?_getD, List.getElem?_eq_getElem (by omega)]
          rfl
        have fr : W.frozen? ⟨w.heap.size + 1 + 1 + 1, x.val, none⟩ = false := HBK.out.frozen _
        have HE := hid_ hE
        have HRL := hid_ hrl
        generalize (setsL s L (List.replicate n 0) (pre.map Fin.val)).getD x.val 0 = old at *
        clear hv hE r4 hrl z1 z2 y1 y2
        gi_wp2_with (refine ⟨trivial, ?_⟩; gi_at_call 27; refine (CallsIn.inRound l (callsIn_wide.2 HG.out)).mono ?_; rintro e w3 ⟨rfl, rfl⟩)
        refine show KeepsFrom w7.heap.size W _ ∧ KpS (fun k => k = w.heap.size + 3) w7.heap.size W _ ∧ (Upd (fun k => k = w.heap.size + 3) w7 _ ∧ _ ∧ _) from ⟨(KeepsOthers.setCell _ _ _).from _, KpS.of_upd (((Upd.refl _ W).setCell (p := ⟨w.heap.size + 1 + 1 + 1, x.val, none⟩) (.inl rfl) _).mono (fun _ _ h9 => h9.symm)) hle, (HU.out.setCell (p := ⟨w.heap.size + 1 + 1 + 1, x.val, none⟩) (.inl rfl) _), ?_, ?_⟩
        · have h9 := HBK.out.set_ x.val (.int .i8 gv)
          have e9 : (rowB (setsL s L (List.replicate n 0) (pre.map Fin.val))).setIfInBounds x.val (.int .i8 gv) = rowB (setsL s L (List.replicate n 0) ((pre ++ [x]).map Fin.val)) := by
            rw [List.map_append, List.map_cons, List.map_nil, setsL_snoc, HGV.out]
            simp [rowB]
          rw [e9] at h9
          exact h9
        · intro k hk
          rw [List.map_append, List.mem_append] at hk
          rcases hk with hk | hk
          · exact HOK.out k hk
          · obtain rfl : k = x.val := by simpa using hk
            exact HE.out
    · have g9 : (ce != 0) = true := bne_iff_ne.2 hce
      have HE : Hid (badE s L x.val = ce) := by show _ = _; rw [HBAD.out, if_pos hce]
      have HCE := hid_ hce
      clear hce
      gi_wp2_with (refine ⟨trivial, ?_⟩; gi_at_call 27; refine (CallsIn.inRound l (callsIn_wide.2 HG.out)).mono ?_; rintro e w3 ⟨rfl, rfl⟩)
      refine show KeepsFrom w7.heap.size W _ ∧ (Code.ret = Code.ret ∧ Upd (fun k => k = w.heap.size + 3 ∨ k = w.heap.size + 1 ∨ k = w.heap.size + 2) w7 _ ∧ _) from ⟨((KeepsOthers.setCell _ _ _).trans (KeepsOthers.setCell _ _ _)).from _, rfl, ((HU.out.mono (fun _ _ h9 => .inl h9)).setCell (p := ⟨w.heap.size + 1, 0, none⟩) (.inl (.inr (.inl rfl))) _).setCell (p := ⟨w.heap.size + 1 + 1, 0, none⟩) (.inl (.inr (.inr rfl))) _, pre, x, rfl, HOK.out, by rw [HE.out]; exact HCE.out, ?_, ?_⟩
      · exact (World.cell?_setCell_other _ _ _ _ (by simp)).trans (World.cell?_setCell_same' _ _ _ (by rw [z1]; rfl))
      · rw [HE.out]
        exact World.cell?_setCell_same' _ _ _ (by rw [World.cell?_setCell_other _ _ _ _ (by simp), z2]; rfl)
  case done =>
    rintro D9 ys W hD9 hys ⟨hU, hbk, hok⟩ hK9
    have hS9 := HSZ.out
    have r1 := (b1.upd hU (by omega))
    have r2 := (b2.upd hU (by omega))
    have r4 := (b4.upd hU (by omega))
    have q4 : W.cell? ⟨w.heap.size + 1 + 1 + 1 + 1, 0, none⟩ = some (.slice (some ⟨w.heap.size + 1 + 1 + 1, 0, none⟩) n n) := (r4.cell 0).trans rfl
    have z1 : W.cell? ⟨w.heap.size + 1, 0, none⟩ = some (.slice none 0 0) := (r1.cell 0).trans rfl
    have z2 : W.cell? ⟨w.heap.size + 1 + 1, 0, none⟩ = some (.int .i64 0) := (r2.cell 0).trans rfl
    have y1 : W.frozen? ⟨w.heap.size + 1, 0, none⟩ = false := r1.frozen 0
    have y2 : W.frozen? ⟨w.heap.size + 1 + 1, 0, none⟩ = false := r2.frozen 0
    have HU := hid_ hU
    have HBK := hid_ hbk
    have HOK := hid_ hok
    clear hU hbk hok r1 r2 r4
    gi_wp2
    have hK2 := ((KeepsOthers.setCell W ⟨w.heap.size + 1, 0, none⟩ (.slice (some ⟨w.heap.size + 1 + 1 + 1, 0, none⟩) n n)).trans (KeepsOthers.setCell _ ⟨w.heap.size + 1 + 1, 0, none⟩ (.int .i64 0))).same D9 _ hK9 rfl
    have c1 := cell_kept ((World.cell?_setCell_other (W.setCell ⟨w.heap.size + 1, 0, none⟩ (.slice (some ⟨w.heap.size + 1 + 1 + 1, 0, none⟩) n n)) ⟨w.heap.size + 1 + 1, 0, none⟩ ⟨w.heap.size + 1, 0, none⟩ (.int .i64 0) (by simp)).trans (World.cell?_setCell_same' W ⟨w.heap.size + 1, 0, none⟩ (.slice (some ⟨w.heap.size + 1 + 1 + 1, 0, none⟩) n n) (by rw [z1]; rfl))) (grownBy_putObj' _ D9 (.deferred none)) (fun r e => by cases e; exact ⟨_, hK2, rfl⟩)
    have c2 := cell_kept (World.cell?_setCell_same' (W.setCell ⟨w.heap.size + 1, 0, none⟩ (.slice (some ⟨w.heap.size + 1 + 1 + 1, 0, none⟩) n n)) ⟨w.heap.size + 1 + 1, 0, none⟩ (.int .i64 0) (by rw [World.cell?_setCell_other _ _ _ _ (by simp), z2]; rfl)) (grownBy_putObj' _ D9 (.deferred none)) (fun r e => by cases e; exact ⟨_, hK2, rfl⟩)
    have hfe : fetchE s L n = 0 := fetchE_ok (fun k hk => HOK.out k (by rw [hys]; exact List.mem_range.2 hk))
    have hW : Upd (fun _ => False) w W := hu7.step HU.out (fun j hj _ => .inr (by omega))
    have hW3 := ((hW.setCell (p := ⟨w.heap.size + 1, 0, none⟩) (.inr (by show w.heap.size ≤ w.heap.size + 1; omega)) (.slice (some ⟨w.heap.size + 1 + 1 + 1, 0, none⟩) n n)).setCell (p := ⟨w.heap.size + 1 + 1, 0, none⟩) (.inr (by show w.heap.size ≤ w.heap.size + 1 + 1; omega)) (.int .i64 0)).grown (grownBy_putObj' _ D9 (.deferred none)) (fun k hk => .inr (by injection hk with hk; omega))
    have hb3 := Blk.upd (S := fun k => k = D9) ((HBK.out.far (p := ⟨w.heap.size + 1, 0, none⟩) (by show w.heap.size + 3 ≠ w.heap.size + 1; omega) (.slice (some ⟨w.heap.size + 1 + 1 + 1, 0, none⟩) n n)).far (p := ⟨w.heap.size + 1 + 1, 0, none⟩) (by show w.heap.size + 3 ≠ w.heap.size + 1 + 1; omega) (.int .i64 0)) ((Upd.refl _ _).grown (grownBy_putObj' _ D9 (.deferred none)) (fun k hk => .inl (by injection hk with hk; exact hk.symm))) (by omega)
    rw [hys, setsL_range s L n n (Nat.le_refl _), Nat.sub_self, List.replicate_zero, List.append_nil] at hb3
    refine ⟨by simp, .inl ⟨_, _, rfl, run_takeDeferred hK2, ?_⟩⟩
    refine ⟨.tuple #[.slice (some ⟨w.heap.size + 1 + 1 + 1, 0, none⟩) n n, .int .i64 0], by simp [results, Try.f35, go_sem, c1, c2], .slice (some ⟨w.heap.size + 1 + 1 + 1, 0, none⟩) n n, by rw [hfe], hW3.toB, fun _ => ?_, fun h9 => absurd hfe h9⟩
    have h9 := own_rowB hb3 (base := w.heap.size) (by omega) (n := n) (by simp) (by have := HND.out; unfold maxLen; omega)
    rw [show ((List.range n).map (gotV s L)).length = n from by simp]
    exact h9
  case stop =>
    rintro D9 c0 pre W hD9 ⟨k9, hk9, hpre⟩ ⟨rfl, hU, p', x, rfl, hok, hne, c1, c2⟩ hK9
    have hS9 := HSZ.out
    have hfe : fetchE s L n = badE s L x.val := by
      rw [List.map_append, List.map_cons, List.map_nil] at hpre
      have hlen := congrArg List.length hpre
      simp at hlen
      obtain ⟨q, rfl⟩ : ∃ q, k9 = q + 1 := ⟨k9 - 1, by omega⟩
      rw [List.range_succ] at hpre
      obtain ⟨h1, h2⟩ := List.append_inj hpre (by simp; omega)
      injection h2 with h2 _
      exact fetchE_first x.isLt (fun j hj => hok j (by rw [h1]; exact List.mem_range.2 (by omega))) hne
    gi_wp2
    have d1 := cell_kept c1 (grownBy_putObj' _ D9 (.deferred none)) (fun r e => by cases e; exact ⟨_, hK9, rfl⟩)
    have d2 := cell_kept c2 (grownBy_putObj' _ D9 (.deferred none)) (fun r e => by cases e; exact ⟨_, hK9, rfl⟩)
    have hW : Upd (fun _ => False) w W := hu7.step hU (fun j hj _ => .inr (by omega))
    have hW3 := hW.grown (grownBy_putObj' _ D9 (.deferred none)) (fun k hk => .inr (by injection hk with hk; omega))
    refine ⟨by simp, .inl ⟨_, _, rfl, run_takeDeferred hK9, ?_⟩⟩
    refine ⟨.tuple #[.slice none 0 0, .int .i64 (badE s L x.val)], by simp [results, Try.f35, go_sem, d1, d2], .slice none 0 0, by rw [hfe], hW3.toB, fun h9 => absurd (hfe.symm.trans h9) hne, fun _ => rfl⟩
end Go.Proofs.Ytelmolblcnolnaa
