/- What the program and the document make of one act of layer 12, side by side; the acts as they lie in memory. Conditions: both pools are whole. -/
import Derived.Test.YtelmolblcnolnaaRFetchW
import Derived.Test.YtelmolblcnolnaaRReleaseW
import Derived.Test.YtelmolblcnolnaaFetchWB
import Derived.Test.YtelmolblcnolnaaPagedSharedW
import Derived.Test.YtelmolblcnolnaaPoolDoesW
import Derived.Test.YtelmolblcnolnaaStepAppend
import Derived.Test.YtelmolblcnolnaaWide
namespace Go.Proofs.Ytelmolblcnolnaa
open Go.RowKit

structure Opw where
  kind : Int
  tag : ByteArray
  wv : Value
  ws : List Int
  pv : Value
  ps : List Int
  n : Int
  v : Int
def Opw.vals (o : Opw) : List Value := [.int .i64 o.kind, .string o.tag, o.wv, o.pv, .int .i64 o.n, .int .i64 o.v]
structure Opw.Ok (w : World) (o : Opw) : Prop where
  hw : RdI w w.heap.size .i8 o.wv o.ws
  fw : Form o.wv
  hp : RdI w w.heap.size .i64 o.pv o.ps
  fp : Form o.pv
  w8 : ∀ x ∈ o.ws, -128 ≤ x ∧ x ≤ 127
  pI : ∀ x ∈ o.ps, InI x
  wl : o.ws.length ≤ 140737488351232
  nI : InI o.n
def OpwRd (w : World) (v : Value) (ops : List Opw) : Prop :=
  ∃ (A : Option Addr) (c : Nat), v = .slice A ops.length c ∧ ops.length ≤ c ∧ ops.length ≤ maxLen ∧ ∀ (i : Nat) (o : Opw), ops[i]? = some o → (∃ b f, A = some ⟨b, f, none⟩ ∧ b < w.heap.size ∧ w.rangeAt b (f + i * 6) o.vals) ∧ o.Ok w
theorem i64_wf_ {x : Int} (h : (Lit.int .i64 x).wf = true) : InI x := by
  simp [Lit.wf, IntKind.min, IntKind.max, IntKind.bits, IntKind.signed] at h
  unfold InI
  omega

section
open Go.ChangeShapes Go.WideShapes Go.ChangeAt Go.Deep
variable {H : Type} {enc : TypeId × Value → H} {W : World} {base : Nat} {v : Value} {d : DataW H} {p : List MemPlace}
theorem Try.cellsOpw : Try.prog.cellsOf 62 = 6 := by kernel_rfl
set_option maxRecDepth 100000 in
theorem opws_open (h : DataW.Trod enc Try.prog W 0 (fun _ => true) true 60 v d p) (k : Value.okWide Try.prog W .any base 60 v) (hs : Sz Try.prog 60 d) : ∃ ops, OpwRd W v ops := by
  obtain ⟨a0, len0, cap0, rfl⟩ := okWide_slice Try.underlying60 k
  obtain ⟨fuel, hf⟩ := h
  rcases structs_trod Try.underlying60 Try.underlying62 (by kernel_rfl) Try.cellsOpw hf with hcs | ⟨a, len, cap, elems, rest, hcs, hy, hel, hl, hm, hi⟩
  · injection hcs with h1 h2 h3
    subst h1 h2 h3
    exact ⟨[], none, 0, rfl, Nat.le_refl _, Nat.zero_le _, fun i o h => by cases h⟩
  · injection hcs with h1 h2 h3
    subst h1 h2 h3
    have hy : d = DataW.slice elems rest := hy
    rw [hy] at hs
    have hse := (sz_slice Try.underlying60 hs).2
    have hx : ∀ i, i < len0 → ∃ o : Opw, (∃ b f, a = ⟨b, f, none⟩ ∧ b < W.heap.size ∧ W.rangeAt b (f + i * 6) o.vals) ∧ o.Ok W := by
      intro i hil
      obtain ⟨n, parts, hpt, hn⟩ := hi i hil
      have hsp : Sz Try.prog 62 (.agg parts) := hse _ (List.mem_of_getElem? hpt)
      obtain ⟨v0, y0, c0, t0, q0⟩ := hn 0 _ rfl
      obtain ⟨v1, y1, c1, t1, q1⟩ := hn 1 _ rfl
      obtain ⟨v2, y2, c2, t2, q2⟩ := hn 2 _ rfl
      obtain ⟨v3, y3, c3, t3, q3⟩ := hn 3 _ rfl
      obtain ⟨v4, y4, c4, t4, q4⟩ := hn 4 _ rfl
      obtain ⟨v5, y5, c5, t5, q5⟩ := hn 5 _ rfl
      have s2 := sz_struct Try.underlying62 hsp (j := 2) rfl q2
      obtain ⟨x0, e0, _, w0⟩ := DataW.trod_int Try.underlying3 t0
      obtain ⟨x1, e1, _, _⟩ := DataW.trod_string Try.underlying9 t1
      obtain ⟨ws, hw, fw, w8, _⟩ := nums_trod Try.underlying54 Try.underlying73 (by kernel_rfl) t2
      obtain ⟨ps, hp, fp, p8, _⟩ := nums_trod Try.underlying33 Try.underlying3 (by kernel_rfl) t3
      obtain ⟨x4, e4, _, w4⟩ := DataW.trod_int Try.underlying3 t4
      obtain ⟨x5, e5, _, _⟩ := DataW.trod_int Try.underlying2 t5
      have hwl : ws.length ≤ 140737488351232 := by
        obtain ⟨A2, c2', hv2, _, _⟩ := RdI.form hw
        rw [hv2] at t2
        have h9 := nums_sz Try.underlying54 t2 s2
        have hb : Try.prog.bytesOf 73 = 1 := by kernel_rfl
        rw [hb] at h9
        unfold reachBytes at h9
        omega
      injection e0 with e0
      injection e1 with e1
      injection e4 with e4
      injection e5 with e5
      subst e0 e1 e4 e5
      obtain ⟨b, f, spot⟩ := a
      have hspot : spot = none := by
        obtain ⟨n0, parts0, _, hn0⟩ := hi 0 (by omega)
        obtain ⟨v0', y0', c0', t0', _⟩ := hn0 0 _ rfl
        have h2 := World.cell?_spot c0'
        simpa [Addr.add] using h2
      subst hspot
      have ha : ∀ j, (⟨b, f, none⟩ : Addr).add j = ⟨b, f + j, none⟩ := fun j => by unfold Addr.add; split <;> simp_all
      simp only [ha] at c0 c1 c2 c3 c4 c5
      refine ⟨⟨x0, x1, v2, ws, v3, ps, x4, x5⟩, ⟨b, f, rfl, World.block_lt_of_cell? W _ c0, fun j u hj => ?_⟩, ⟨hw, fw, hp, fp, fun x hx => i8_wf (w8 x hx), fun x hx => i64_wf_ (p8 x hx), hwl, i64_wf_ w4⟩⟩
      match j, hj with
      | 0, hj => injection hj with hj; subst hj; exact c0
      | 1, hj => injection hj with hj; subst hj; rw [Nat.add_assoc]; exact c1
      | 2, hj => injection hj with hj; subst hj; rw [Nat.add_assoc]; exact c2
      | 3, hj => injection hj with hj; subst hj; rw [Nat.add_assoc]; exact c3
      | 4, hj => injection hj with hj; subst hj; rw [Nat.add_assoc]; exact c4
      | 5, hj => injection hj with hj; subst hj; rw [Nat.add_assoc]; exact c5
    obtain ⟨ops, hlen, hr⟩ := list_of_exists hx
    refine ⟨ops, some a, cap0, by rw [hlen], by omega, by omega, fun i o ho => ?_⟩
    obtain ⟨⟨b, f, rfl, hb, hc⟩, hok⟩ := hr i o ho
    exact ⟨⟨b, f, rfl, hb, hc⟩, hok⟩
end

/-- a copy of a row -/
theorem copied2 {w0 w1 w2 : World} {e : TypeId} {k : IntKind} {v1 : Value} {l : List Int} {g : Nat} (hu : Upd (fun _ => False) w0 w1) (hg0 : w0.heap.size ≤ g) (hO : w2.ownsRow g e 1 v1 (0 + (l.map (Value.int k)).length) ([] ++ l.map (Value.int k))) (hg : w1.grownBy w2 (Value.slice (some ⟨g, 0, none⟩) 0 0).ownBlock) :
    ∃ A c, v1 = .slice A l.length c ∧ RdI w2 w2.heap.size k (.slice A l.length c) l ∧ (∀ b' o, A = some ⟨b', o, none⟩ → 0 < l.length → w0.heap.size ≤ b') ∧ Upd (fun _ => False) w0 w2 := by
  have hO2 : w2.ownsRow g e 1 v1 l.length (l.map (Value.int k)) := by simpa using hO
  obtain ⟨A, c, rfl⟩ := own_slice_ hO2
  refine ⟨A, c, rfl, Rd.of_own hO2, fun b' o hA h0 => ?_, hu.grown hg (fun j h => .inr ?_)⟩
  · obtain ⟨g2, h1, h2⟩ := own_form hO2 h0
    rw [hA] at h1
    injection h1 with h1
    injection h1 with h1 _ _
    omega
  · have h9 : some g = some j := h
    injection h9 with h9
    omega
def placeS (s : Pl) (tag : ByteArray) (xs : List Int) : Pl := if s.takeE tag (needV xs.length) = 0 then putsTo (s.takeS tag (needV xs.length)) (s.takeL tag (needV xs.length)) xs xs.length else s
theorem ok_placeS {s : Pl} {c : Int} (h : s.Ok c) (hc : 1 ≤ c) (tag : ByteArray) (xs : List Int) : (placeS s tag xs).Ok c := by
  unfold placeS
  split
  · exact ok_putsTo (h.take hc _ _) _ _ _
  · exact h
theorem len_placeS (s : Pl) (tag : ByteArray) (xs : List Int) : (placeS s tag xs).pages.length = s.pages.length := by
  unfold placeS
  split
  · rw [len_putsTo, Pl.len_takeS]
  · rfl
structure PlaceBoth (b bq rb rq : Nat) (gs : Nat → Nat) (s : Pl) (c : Int) (tag : ByteArray) (xs : List Int) (E : Int) (L : List Int) (s' : Pl) : Prop where
  ok : s'.Ok c
  len : s'.pages.length = s.pages.length
  prog : ∀ {w3 : World} {A : Option Addr} {cc : Nat}, PoolAt w3 b bq s → RdI w3 w3.heap.size .i8 (.slice A xs.length cc) xs → (∀ b' o, A = some ⟨b', o, none⟩ → 0 < xs.length → ¬ pS b bq b') →
    Calls Try.prog 34 #[.pointer (some ⟨b, 0, none⟩), .string tag, .slice A xs.length cc] w3 fun e w' => ∃ v, e = .returned (.tuple #[v, .int .i64 E]) ∧ OwnI w' w3.heap.size v L ∧ PoolAt w' b bq s' ∧ Upd (pS b bq) w3 w'
  doc : ∀ {w3 : World} {B : Nat} {A : Option Addr} {cc : Nat}, RefAt w3 rb rq gs s → RdI w3 B .i8 (.slice A xs.length cc) xs → (∀ b' o, A = some ⟨b', o, none⟩ → 0 < xs.length → ¬ rS rb rq gs s.pages b') →
    Calls Try.prog 40 #[.pointer (some ⟨rb, 0, none⟩), .string tag, .slice A xs.length cc] w3 fun e w' => ∃ v, e = .returned (.tuple #[v, .int .i64 E]) ∧ OwnI w' w3.heap.size v L ∧ RefTo w3 rb rq gs s.pages s'.pages s'.aside w'
theorem place_both {s : Pl} {c : Int} (hk : s.Ok c) (hc : 1 ≤ c) (b bq rb rq : Nat) (gs : Nat → Nat) (tag : ByteArray) {xs : List Int} (h8 : ∀ v ∈ xs, -128 ≤ v ∧ v ≤ 127) : ∃ E L s', PlaceBoth b bq rb rq gs s c tag xs E L s' :=
  ⟨_, _, placeS s tag xs, ok_placeS hk hc _ _, len_placeS _ _ _, fun hp hx ha => place_any hp hk tag hx h8 ha, fun hr hx ha => rplace_any hr hk hc tag hx h8 ha⟩

structure FetchBoth (b rb : Nat) (bq rq : Nat) (gs : Nat → Nat) (s : Pl) (L : List Int) (n : Int) (E : Int) (l : List Int) : Prop where
  prog : ∀ {w3 : World} {B : Nat} {A : Option Addr} {cc : Nat}, PoolAt w3 b bq s → RdI w3 B .i64 (.slice A L.length cc) L →
    Calls Try.prog 35 #[.pointer (some ⟨b, 0, none⟩), .slice A L.length cc, .int .i64 n] w3 fun e w' => ∃ v, e = .returned (.tuple #[v, .int .i64 E]) ∧ RdI w' w'.heap.size .i8 v l ∧ Below w3.heap.size w3 w'
  doc : ∀ {w3 : World} {B : Nat} {A : Option Addr} {cc : Nat}, RefAt w3 rb rq gs s → RdI w3 B .i64 (.slice A L.length cc) L →
    Calls Try.prog 42 #[.pointer (some ⟨rb, 0, none⟩), .slice A L.length cc, .int .i64 n] w3 fun e w' => ∃ v, e = .returned (.tuple #[v, .int .i64 E]) ∧ RdI w' w'.heap.size .i8 v l ∧ Below w3.heap.size w3 w'
theorem fetchPost_rd {w : World} {E : Int} {l : List Int} {e : Ending} {w' : World} (h : FetchPost w E l e w') : ∃ v, e = .returned (.tuple #[v, .int .i64 E]) ∧ RdI w' w'.heap.size .i8 v (if E = 0 then l else []) ∧ Below w.heap.size w w' := by
  obtain ⟨v, h1, h2, h3, h4⟩ := h
  refine ⟨v, h1, ?_, h2⟩
  by_cases hE : E = 0
  · rw [if_pos hE]
    exact Rd.of_own (h3 hE)
  · rw [if_neg hE, h4 hE]
    exact rdi_nil _ _ _ _ _
theorem fetch_both {s : Pl} {c : Int} (hk : s.Ok c) (b bq rb rq : Nat) (gs : Nat → Nat) {L : List Int} (hL : L.length ≤ 1048576) {n : Int} (hn : InI n) : ∃ E l, FetchBoth b rb bq rq gs s L n E l := by
  by_cases h : n < 0 ∨ (L.length : Int) < needV n
  · refine ⟨20, [], ⟨fun hp hx => (fetch_no hn h).mono fun e w' ⟨h1, h2⟩ => ⟨_, h1, rdi_nil _ _ _ _ _, h2⟩, fun hr hx => (rfetch_no hn h).mono fun e w' ⟨h1, h2⟩ => ⟨_, h1, rdi_nil _ _ _ _ _, h2⟩⟩⟩
  · obtain ⟨m, rfl⟩ := Int.eq_ofNat_of_zero_le (show 0 ≤ n by omega)
    have h1 : (m + 31) / 32 ≤ L.length := by rw [need_eq] at h; omega
    exact ⟨_, _, ⟨fun hp hx => (fetch_run hp hk.len hx hL h1).mono fun _ _ h => fetchPost_rd h, fun hr hx => (rfetch_run hr hk hx hL h1).mono fun _ _ h => fetchPost_rd h⟩⟩

structure RelBoth (b bq rb rq : Nat) (gs : Nat → Nat) (s : Pl) (c : Int) (L : List Int) (E : Int) (s' : Pl) : Prop where
  ok : s'.Ok c
  len : s'.pages.length = s.pages.length
  prog : ∀ {w3 : World} {B : Nat} {A : Option Addr} {cc : Nat}, PoolAt w3 b bq s → RdI w3 B .i64 (.slice A L.length cc) L → (∀ b' o, A = some ⟨b', o, none⟩ → 0 < L.length → ¬ pS b bq b') →
    Calls Try.prog 37 #[.pointer (some ⟨b, 0, none⟩), .slice A L.length cc] w3 fun e w' => e = .returned (.int .i64 E) ∧ PoolAt w' b bq s' ∧ Upd (pS b bq) w3 w'
  doc : ∀ {w3 : World} {B : Nat} {A : Option Addr} {cc : Nat}, RefAt w3 rb rq gs s → RdI w3 B .i64 (.slice A L.length cc) L → (∀ b' o, A = some ⟨b', o, none⟩ → 0 < L.length → ¬ rS rb rq gs s.pages b') →
    Calls Try.prog 43 #[.pointer (some ⟨rb, 0, none⟩), .slice A L.length cc] w3 fun e w' => e = .returned (.int .i64 E) ∧ RefTo w3 rb rq gs s.pages s'.pages s'.aside w'
theorem rel_both {s : Pl} {c : Int} (hk : s.Ok c) (hc : 0 ≤ c) (hc9 : c < 1000000) (b bq rb rq : Nat) (gs : Nat → Nat) {L : List Int} (hL : L.length ≤ 1048576) (hI : ∀ x ∈ L, InI x) : ∃ E s', RelBoth b bq rb rq gs s c L E s' :=
  ⟨_, _, ok_relS hk hc L, len_relS s L, fun hp hx ha => release_any hp hk hc (by omega) hx hL hI ha, fun hr hx ha => rrelease_any hr hk hc (by omega) hx hL ha⟩
theorem same7_true {w : World} {v u : Value} {xs : List Int} {B B' : Nat} (hx : RdI w B .i64 v xs) (hy : RdI w B' .i64 u xs) :
    Calls Try.prog 41 #[v, u] w fun e w' => e = .returned (.bool true) ∧ Upd (fun _ => False) w w' :=
  (same07_any hx hy).mono fun e w' ⟨h1, n, h2⟩ => ⟨by rw [h1, decide_eq_true rfl], by rw [h2]; exact (Upd.refl _ _).drewN n⟩
end Go.Proofs.Ytelmolblcnolnaa
