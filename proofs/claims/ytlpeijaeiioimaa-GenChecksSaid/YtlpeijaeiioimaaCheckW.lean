/- What is wrong with what is asked, and how many rows it may take, walked: the program's and the document's. Conditions: the prompt reads as the tokens; the heat's word has 64 bits. -/
import Derived.Test.YtlpeijaeiioimaaRightWB
namespace Go.Proofs.Ytlpeijaeiioimaa
open Go.RowKit

def CfgAt (w : World) (b : Nat) (d h L V hd e k wd : Int) : Prop := Blk w b 30 #[.int .i64 d, .int .i64 h, .int .i64 L, .int .i64 V, .int .i64 hd, .int .i64 e, .int .i64 k, .int .i64 wd]
theorem CfgAt.cells {w : World} {b : Nat} {d h L V hd e k wd : Int} (q : CfgAt w b d h L V hd e k wd) : w.cell? ⟨b, 0, none⟩ = some (.int .i64 d) ∧ w.cell? ⟨b, 1, none⟩ = some (.int .i64 h) ∧ w.cell? ⟨b, 2, none⟩ = some (.int .i64 L) ∧ w.cell? ⟨b, 3, none⟩ = some (.int .i64 V) ∧
    w.cell? ⟨b, 4, none⟩ = some (.int .i64 hd) ∧ w.cell? ⟨b, 5, none⟩ = some (.int .i64 e) ∧ w.cell? ⟨b, 6, none⟩ = some (.int .i64 k) ∧ w.cell? ⟨b, 7, none⟩ = some (.int .i64 wd) :=
  ⟨(Blk.cell q 0).trans rfl, (Blk.cell q 1).trans rfl, (Blk.cell q 2).trans rfl, (Blk.cell q 3).trans rfl, (Blk.cell q 4).trans rfl, (Blk.cell q 5).trans rfl, (Blk.cell q 6).trans rfl, (Blk.cell q 7).trans rfl⟩
theorem CfgAt.below {w w' : World} {b : Nat} {d h L V hd e k wd : Int} (q : CfgAt w b d h L V hd e k wd) (hb : Below w.heap.size w w') : CfgAt w' b d h L V hd e k wd := Blk.upd q (Upd.of_below (S := fun _ => False) hb) (fun h => h)
def AskAt (w : World) (b : Nat) (kind : Int) (p : Value) (len stop seed topk : Int) (x : Nat) (beams pen : Int) : Prop := Blk w b 35 #[.int .i64 kind, p, .int .i64 len, .int .i64 stop, .int .u64 seed, .int .i64 topk, .float .f64 x, .int .i64 beams, .int .i64 pen]
theorem AskAt.cells {w : World} {b : Nat} {kind : Int} {p : Value} {len stop seed topk : Int} {x : Nat} {beams pen : Int} (q : AskAt w b kind p len stop seed topk x beams pen) : w.cell? ⟨b, 0, none⟩ = some (.int .i64 kind) ∧ w.cell? ⟨b, 1, none⟩ = some p ∧ w.cell? ⟨b, 2, none⟩ = some (.int .i64 len) ∧
    w.cell? ⟨b, 3, none⟩ = some (.int .i64 stop) ∧ w.cell? ⟨b, 4, none⟩ = some (.int .u64 seed) ∧ w.cell? ⟨b, 5, none⟩ = some (.int .i64 topk) ∧ w.cell? ⟨b, 6, none⟩ = some (.float .f64 x) ∧ w.cell? ⟨b, 7, none⟩ = some (.int .i64 beams) ∧ w.cell? ⟨b, 8, none⟩ = some (.int .i64 pen) :=
  ⟨(Blk.cell q 0).trans rfl, (Blk.cell q 1).trans rfl, (Blk.cell q 2).trans rfl, (Blk.cell q 3).trans rfl, (Blk.cell q 4).trans rfl, (Blk.cell q 5).trans rfl, (Blk.cell q 6).trans rfl, (Blk.cell q 7).trans rfl, (Blk.cell q 8).trans rfl⟩
theorem AskAt.below {w w' : World} {b : Nat} {kind : Int} {p : Value} {len stop seed topk : Int} {x : Nat} {beams pen : Int} (q : AskAt w b kind p len stop seed topk x beams pen) (hb : Below w.heap.size w w') : AskAt w' b kind p len stop seed topk x beams pen := Blk.upd q (Upd.of_below (S := fun _ => False) hb) (fun h => h)
def IntP (w : World) (r : Int) (e : Ending) (w' : World) : Prop := e = .returned (.int .i64 r) ∧ Below w.heap.size w w'
/-- what a check comes to -/
def checkV (okc okr : Bool) (kind : Int) (n : Nat) (len : Int) : Int := if okc = false then 1 else if okr = false then 1 else if 24 < n then 4 else if kind = 4 then 0 else if 24 - (n : Int) < len then 4 else 0
theorem cfg_vocab {d h L V hd e k wd : Int} (q : cfgP d h L V hd e k wd = true) : 2 ≤ V ∧ V ≤ 16 := by
  unfold cfgP at q
  simp only [Bool.and_eq_true] at q
  exact inB_iff.1 q.2.2.2.2.2.2.1
set_option maxRecDepth 100000 in
set_option maxHeartbeats 6400000 in
theorem check_walk {w : World} {B : Nat} {A : Option Addr} {n c : Nat} {xs : List Int} (hx : RdI w B .i64 (.slice A n c) xs) {d h L V hd e k wd kind len stop seed topk beams pen : Int} {x : Nat} (hxx : x < 18446744073709551616) :
    Calls Try.prog 16 #[.agg #[.int .i64 d, .int .i64 h, .int .i64 L, .int .i64 V, .int .i64 hd, .int .i64 e, .int .i64 k, .int .i64 wd], .agg #[.int .i64 kind, .slice A n c, .int .i64 len, .int .i64 stop, .int .u64 seed, .int .i64 topk, .float .f64 x, .int .i64 beams, .int .i64 pen]] w
      (IntP w (checkV (cfgP d h L V hd e k wd) (rightP V kind xs len stop topk (fixE x) beams pen) kind n len)) := by
  have hmx := (rdi_len hx).2.2
  unfold maxLen at hmx
  have HB0 : Hid (Below w.heap.size w ((w.alloc (.cells #[.int .i64 d, .int .i64 h, .int .i64 L, .int .i64 V, .int .i64 hd, .int .i64 e, .int .i64 k, .int .i64 wd] 30)).alloc (.cells #[.int .i64 kind, .slice A n c, .int .i64 len, .int .i64 stop, .int .u64 seed, .int .i64 topk, .float .f64 x, .int .i64 beams, .int .i64 pen] 35))) :=
    below_comp (below_alloc0 w _) (below_alloc0 _ _)
  have HX0 := hid_ (rdi_below hx HB0.out)
  have HK0 : Hid (CfgAt _ w.heap.size d h L V hd e k wd) := (Blk.new w 30 #[.int .i64 d, .int .i64 h, .int .i64 L, .int .i64 V, .int .i64 hd, .int .i64 e, .int .i64 k, .int .i64 wd]).alloc (.cells #[.int .i64 kind, .slice A n c, .int .i64 len, .int .i64 stop, .int .u64 seed, .int .i64 topk, .float .f64 x, .int .i64 beams, .int .i64 pen] 35)
  have b2 := Blk.new (w.alloc (.cells #[.int .i64 d, .int .i64 h, .int .i64 L, .int .i64 V, .int .i64 hd, .int .i64 e, .int .i64 k, .int .i64 wd] 30)) 35 #[.int .i64 kind, .slice A n c, .int .i64 len, .int .i64 stop, .int .u64 seed, .int .i64 topk, .float .f64 x, .int .i64 beams, .int .i64 pen]
  rw [World.size_alloc] at b2
  have HA0 : Hid (AskAt _ (w.heap.size + 1) kind (.slice A n c) len stop seed topk x beams pen) := b2
  have hCC : ∀ w, Hid (Calls Try.prog 45 #[.agg #[.int .i64 d, .int .i64 h, .int .i64 L, .int .i64 V, .int .i64 hd, .int .i64 e, .int .i64 k, .int .i64 wd]] w (BoolPost w (cfgP d h L V hd e k wd))) := fun w => by
    have := cfg_walk d h L V hd e k wd w
    first
      | exact this
      | (rw [← cfg_eq] at this; exact this)
  clear hx b2
  have hV : cfgP d h L V hd e k wd = true → 2 ≤ V ∧ V ≤ 16 := cfg_vocab
  have hRR : cfgP d h L V hd e k wd = true → ∀ {w : World} {B : Nat}, RdI w B .i64 (.slice A n c) xs → Hid (Calls Try.prog 46 #[.agg #[.int .i64 d, .int .i64 h, .int .i64 L, .int .i64 V, .int .i64 hd, .int .i64 e, .int .i64 k, .int .i64 wd], .agg #[.int .i64 kind, .slice A n c, .int .i64 len, .int .i64 stop, .int .u64 seed, .int .i64 topk, .float .f64 x, .int .i64 beams, .int .i64 pen]] w
      (BoolPost w (rightP V kind xs len stop topk (fixE x) beams pen))) := fun hc w B hx => by
    have hV := hV hc
    exact right_walk hx hxx hV
  clear hV
  generalize cfgP d h L V hd e k wd = okc at *
  generalize rightP V kind xs len stop topk (fixE x) beams pen = okr at *
  have e1 : wrap64 (24 - (n : Int)) = 24 - (n : Int) := w64_id (by unfold InI64; omega)
  cases okc with
  | false =>
    clear hRR
    go_enter Try.func16, Try.ntmps16
    go_wp2_with ((go_at_call 45); (refine (hCC _).out.mono ?_); (rintro e w1 ⟨rfl, hb⟩); (have HB1 := hid_ (below_comp HB0.out hb)); (clear hb))
    go_ret
    exact ⟨rfl, HB1.out⟩
  | true =>
    have hR2 := fun (w : World) (B : Nat) => @hRR rfl w B
    clear hRR
    cases okr with
    | false =>
      go_enter Try.func16, Try.ntmps16
      go_wp2_with (first
        | ((go_at_call 45); (refine (hCC _).out.mono ?_); (rintro e w1 ⟨rfl, hb⟩); (have HB1 := hid_ (below_comp HB0.out hb)); (have HX1 := hid_ (rdi_below HX0.out hb)); (obtain ⟨c0, c1, c2, c3, c4, c5, c6, c7⟩ := (HK0.out.below hb).cells); (obtain ⟨a0, a1, a2, a3, a4, a5, a6, a7, a8⟩ := (HA0.out.below hb).cells); (clear hb))
        | ((go_at_call 46); (refine (hR2 _ _ HX1.out).out.mono ?_); (rintro e w2 ⟨rfl, hb⟩); (have HB2 := hid_ (below_comp HB1.out hb)); (clear hb)))
      go_ret
      exact ⟨rfl, HB2.out⟩
    | true =>
      have gs : (24 < n) ∨ (¬ 24 < n ∧ kind = 4) ∨ (¬ 24 < n ∧ ¬ kind = 4 ∧ 24 - (n : Int) < len) ∨ (¬ 24 < n ∧ ¬ kind = 4 ∧ ¬ 24 - (n : Int) < len) := by omega
      rcases gs with g1 | ⟨g1, rfl⟩ | ⟨g1, g2, g3⟩ | ⟨g1, g2, g3⟩
      · have f1 : 24 - (n : Int) < 0 := by omega
        have f2 : (24 : Int) < (n : Int) := by omega
        go_enter Try.func16, Try.ntmps16
        go_wp2_with (first
          | ((go_at_call 45); (refine (hCC _).out.mono ?_); (rintro e w1 ⟨rfl, hb⟩); (have HB1 := hid_ (below_comp HB0.out hb)); (have HX1 := hid_ (rdi_below HX0.out hb)); (have HK1 := hid_ (HK0.out.below hb)); (have HA1 := hid_ (HA0.out.below hb)); (obtain ⟨c0, c1, c2, c3, c4, c5, c6, c7⟩ := HK1.out.cells); (obtain ⟨a0, a1, a2, a3, a4, a5, a6, a7, a8⟩ := HA1.out.cells); (clear hb))
          | ((go_at_call 46); (refine (hR2 _ _ HX1.out).out.mono ?_); (rintro e w2 ⟨rfl, hb⟩); (have HB2 := hid_ (below_comp HB1.out hb)); (clear c0 c1 c2 c3 c4 c5 c6 c7 a0 a1 a2 a3 a4 a5 a6 a7 a8); (obtain ⟨a0, a1, a2, a3, a4, a5, a6, a7, a8⟩ := (HA1.out.below hb).cells); (clear hb)))
        go_ret
        exact ⟨by simp [checkV, *], HB2.out⟩
      · have f1 : ¬ 24 - (n : Int) < 0 := by omega
        have f2 : ¬ (24 : Int) < (n : Int) := by omega
        go_enter Try.func16, Try.ntmps16
        go_wp2_with (first
          | ((go_at_call 45); (refine (hCC _).out.mono ?_); (rintro e w1 ⟨rfl, hb⟩); (have HB1 := hid_ (below_comp HB0.out hb)); (have HX1 := hid_ (rdi_below HX0.out hb)); (have HK1 := hid_ (HK0.out.below hb)); (have HA1 := hid_ (HA0.out.below hb)); (obtain ⟨c0, c1, c2, c3, c4, c5, c6, c7⟩ := HK1.out.cells); (obtain ⟨a0, a1, a2, a3, a4, a5, a6, a7, a8⟩ := HA1.out.cells); (clear hb))
          | ((go_at_call 46); (refine (hR2 _ _ HX1.out).out.mono ?_); (rintro e w2 ⟨rfl, hb⟩); (have HB2 := hid_ (below_comp HB1.out hb)); (clear c0 c1 c2 c3 c4 c5 c6 c7 a0 a1 a2 a3 a4 a5 a6 a7 a8); (obtain ⟨a0, a1, a2, a3, a4, a5, a6, a7, a8⟩ := (HA1.out.below hb).cells); (clear hb)))
        go_ret
        exact ⟨by simp [checkV, *], HB2.out⟩
      · have f1 : ¬ 24 - (n : Int) < 0 := by omega
        have f2 : ¬ (24 : Int) < (n : Int) := by omega
        have f3 : (kind != 4) = true := bne_iff_ne.2 g2
        go_enter Try.func16, Try.ntmps16
        go_wp2_with (first
          | ((go_at_call 45); (refine (hCC _).out.mono ?_); (rintro e w1 ⟨rfl, hb⟩); (have HB1 := hid_ (below_comp HB0.out hb)); (have HX1 := hid_ (rdi_below HX0.out hb)); (have HK1 := hid_ (HK0.out.below hb)); (have HA1 := hid_ (HA0.out.below hb)); (obtain ⟨c0, c1, c2, c3, c4, c5, c6, c7⟩ := HK1.out.cells); (obtain ⟨a0, a1, a2, a3, a4, a5, a6, a7, a8⟩ := HA1.out.cells); (clear hb))
          | ((go_at_call 46); (refine (hR2 _ _ HX1.out).out.mono ?_); (rintro e w2 ⟨rfl, hb⟩); (have HB2 := hid_ (below_comp HB1.out hb)); (clear c0 c1 c2 c3 c4 c5 c6 c7 a0 a1 a2 a3 a4 a5 a6 a7 a8); (obtain ⟨a0, a1, a2, a3, a4, a5, a6, a7, a8⟩ := (HA1.out.below hb).cells); (clear hb)))
        go_ret
        exact ⟨by simp [checkV, *], HB2.out⟩
      · have f1 : ¬ 24 - (n : Int) < 0 := by omega
        have f2 : ¬ (24 : Int) < (n : Int) := by omega
        have f3 : (kind != 4) = true := bne_iff_ne.2 g2
        go_enter Try.func16, Try.ntmps16
        go_wp2_with (first
          | ((go_at_call 45); (refine (hCC _).out.mono ?_); (rintro e w1 ⟨rfl, hb⟩); (have HB1 := hid_ (below_comp HB0.out hb)); (have HX1 := hid_ (rdi_below HX0.out hb)); (have HK1 := hid_ (HK0.out.below hb)); (have HA1 := hid_ (HA0.out.below hb)); (obtain ⟨c0, c1, c2, c3, c4, c5, c6, c7⟩ := HK1.out.cells); (obtain ⟨a0, a1, a2, a3, a4, a5, a6, a7, a8⟩ := HA1.out.cells); (clear hb))
          | ((go_at_call 46); (refine (hR2 _ _ HX1.out).out.mono ?_); (rintro e w2 ⟨rfl, hb⟩); (have HB2 := hid_ (below_comp HB1.out hb)); (clear c0 c1 c2 c3 c4 c5 c6 c7 a0 a1 a2 a3 a4 a5 a6 a7 a8); (obtain ⟨a0, a1, a2, a3, a4, a5, a6, a7, a8⟩ := (HA1.out.below hb).cells); (clear hb)))
        go_ret
        exact ⟨by simp [checkV, *], HB2.out⟩
set_option maxRecDepth 100000 in
set_option maxHeartbeats 6400000 in
theorem rcheck_walk {w : World} {B : Nat} {A : Option Addr} {n c : Nat} {xs : List Int} (hx : RdI w B .i64 (.slice A n c) xs) {d h L V hd e k wd kind len stop seed topk beams pen : Int} {x : Nat} (_hxx : x < 18446744073709551616) :
    Calls Try.prog 18 #[.agg #[.int .i64 d, .int .i64 h, .int .i64 L, .int .i64 V, .int .i64 hd, .int .i64 e, .int .i64 k, .int .i64 wd], .agg #[.int .i64 kind, .slice A n c, .int .i64 len, .int .i64 stop, .int .u64 seed, .int .i64 topk, .float .f64 x, .int .i64 beams, .int .i64 pen]] w
      (IntP w (checkV (cfgP d h L V hd e k wd) (rightP V kind xs len stop topk (fixE x) beams pen) kind n len)) := by
  have hmx := (rdi_len hx).2.2
  unfold maxLen at hmx
  have HB0 : Hid (Below w.heap.size w ((w.alloc (.cells #[.int .i64 d, .int .i64 h, .int .i64 L, .int .i64 V, .int .i64 hd, .int .i64 e, .int .i64 k, .int .i64 wd] 30)).alloc (.cells #[.int .i64 kind, .slice A n c, .int .i64 len, .int .i64 stop, .int .u64 seed, .int .i64 topk, .float .f64 x, .int .i64 beams, .int .i64 pen] 35))) :=
    below_comp (below_alloc0 w _) (below_alloc0 _ _)
  have HX0 := hid_ (rdi_below hx HB0.out)
  have HK0 : Hid (CfgAt _ w.heap.size d h L V hd e k wd) := (Blk.new w 30 #[.int .i64 d, .int .i64 h, .int .i64 L, .int .i64 V, .int .i64 hd, .int .i64 e, .int .i64 k, .int .i64 wd]).alloc (.cells #[.int .i64 kind, .slice A n c, .int .i64 len, .int .i64 stop, .int .u64 seed, .int .i64 topk, .float .f64 x, .int .i64 beams, .int .i64 pen] 35)
  have b2 := Blk.new (w.alloc (.cells #[.int .i64 d, .int .i64 h, .int .i64 L, .int .i64 V, .int .i64 hd, .int .i64 e, .int .i64 k, .int .i64 wd] 30)) 35 #[.int .i64 kind, .slice A n c, .int .i64 len, .int .i64 stop, .int .u64 seed, .int .i64 topk, .float .f64 x, .int .i64 beams, .int .i64 pen]
  rw [World.size_alloc] at b2
  have HA0 : Hid (AskAt _ (w.heap.size + 1) kind (.slice A n c) len stop seed topk x beams pen) := b2
  have hCC : ∀ w, Hid (Calls Try.prog 47 #[.agg #[.int .i64 d, .int .i64 h, .int .i64 L, .int .i64 V, .int .i64 hd, .int .i64 e, .int .i64 k, .int .i64 wd]] w (BoolPost w (cfgP d h L V hd e k wd))) := fun w => by
    have := rcfg_walk d h L V hd e k wd w
    first
      | exact this
      | (rw [← cfg_eq] at this; exact this)
  clear hx b2
  have hV : cfgP d h L V hd e k wd = true → 2 ≤ V ∧ V ≤ 16 := cfg_vocab
  have hRR : cfgP d h L V hd e k wd = true → ∀ {w : World} {B : Nat}, RdI w B .i64 (.slice A n c) xs → Hid (Calls Try.prog 48 #[.agg #[.int .i64 d, .int .i64 h, .int .i64 L, .int .i64 V, .int .i64 hd, .int .i64 e, .int .i64 k, .int .i64 wd], .agg #[.int .i64 kind, .slice A n c, .int .i64 len, .int .i64 stop, .int .u64 seed, .int .i64 topk, .float .f64 x, .int .i64 beams, .int .i64 pen]] w
      (BoolPost w (rightP V kind xs len stop topk (fixE x) beams pen))) := fun hc w B hx => by
    have hV := hV hc
    exact rright_walk hx
  clear hV
  generalize cfgP d h L V hd e k wd = okc at *
  generalize rightP V kind xs len stop topk (fixE x) beams pen = okr at *
  have e1 : wrap64 (24 - (n : Int)) = 24 - (n : Int) := w64_id (by unfold InI64; omega)
  cases okc with
  | false =>
    clear hRR
    go_enter Try.func18, Try.ntmps18
    go_wp2_with ((go_at_call 47); (refine (hCC _).out.mono ?_); (rintro e w1 ⟨rfl, hb⟩); (have HB1 := hid_ (below_comp HB0.out hb)); (clear hb))
    go_ret
    exact ⟨rfl, HB1.out⟩
  | true =>
    have hR2 := fun (w : World) (B : Nat) => @hRR rfl w B
    clear hRR
    cases okr with
    | false =>
      go_enter Try.func18, Try.ntmps18
      go_wp2_with (first
        | ((go_at_call 47); (refine (hCC _).out.mono ?_); (rintro e w1 ⟨rfl, hb⟩); (have HB1 := hid_ (below_comp HB0.out hb)); (have HX1 := hid_ (rdi_below HX0.out hb)); (obtain ⟨c0, c1, c2, c3, c4, c5, c6, c7⟩ := (HK0.out.below hb).cells); (obtain ⟨a0, a1, a2, a3, a4, a5, a6, a7, a8⟩ := (HA0.out.below hb).cells); (clear hb))
        | ((go_at_call 48); (refine (hR2 _ _ HX1.out).out.mono ?_); (rintro e w2 ⟨rfl, hb⟩); (have HB2 := hid_ (below_comp HB1.out hb)); (clear hb)))
      go_ret
      exact ⟨rfl, HB2.out⟩
    | true =>
      have gs : (24 < n) ∨ (¬ 24 < n ∧ kind = 4) ∨ (¬ 24 < n ∧ ¬ kind = 4 ∧ 24 - (n : Int) < len) ∨ (¬ 24 < n ∧ ¬ kind = 4 ∧ ¬ 24 - (n : Int) < len) := by omega
      rcases gs with g1 | ⟨g1, rfl⟩ | ⟨g1, g2, g3⟩ | ⟨g1, g2, g3⟩
      · have f1 : 24 - (n : Int) < 0 := by omega
        have f2 : (24 : Int) < (n : Int) := by omega
        go_enter Try.func18, Try.ntmps18
        go_wp2_with (first
          | ((go_at_call 47); (refine (hCC _).out.mono ?_); (rintro e w1 ⟨rfl, hb⟩); (have HB1 := hid_ (below_comp HB0.out hb)); (have HX1 := hid_ (rdi_below HX0.out hb)); (have HK1 := hid_ (HK0.out.below hb)); (have HA1 := hid_ (HA0.out.below hb)); (obtain ⟨c0, c1, c2, c3, c4, c5, c6, c7⟩ := HK1.out.cells); (obtain ⟨a0, a1, a2, a3, a4, a5, a6, a7, a8⟩ := HA1.out.cells); (clear hb))
          | ((go_at_call 48); (refine (hR2 _ _ HX1.out).out.mono ?_); (rintro e w2 ⟨rfl, hb⟩); (have HB2 := hid_ (below_comp HB1.out hb)); (clear c0 c1 c2 c3 c4 c5 c6 c7 a0 a1 a2 a3 a4 a5 a6 a7 a8); (obtain ⟨a0, a1, a2, a3, a4, a5, a6, a7, a8⟩ := (HA1.out.below hb).cells); (clear hb)))
        go_ret
        exact ⟨by simp [checkV, *], HB2.out⟩
      · have f1 : ¬ 24 - (n : Int) < 0 := by omega
        have f2 : ¬ (24 : Int) < (n : Int) := by omega
        go_enter Try.func18, Try.ntmps18
        go_wp2_with (first
          | ((go_at_call 47); (refine (hCC _).out.mono ?_); (rintro e w1 ⟨rfl, hb⟩); (have HB1 := hid_ (below_comp HB0.out hb)); (have HX1 := hid_ (rdi_below HX0.out hb)); (have HK1 := hid_ (HK0.out.below hb)); (have HA1 := hid_ (HA0.out.below hb)); (obtain ⟨c0, c1, c2, c3, c4, c5, c6, c7⟩ := HK1.out.cells); (obtain ⟨a0, a1, a2, a3, a4, a5, a6, a7, a8⟩ := HA1.out.cells); (clear hb))
          | ((go_at_call 48); (refine (hR2 _ _ HX1.out).out.mono ?_); (rintro e w2 ⟨rfl, hb⟩); (have HB2 := hid_ (below_comp HB1.out hb)); (clear c0 c1 c2 c3 c4 c5 c6 c7 a0 a1 a2 a3 a4 a5 a6 a7 a8); (obtain ⟨a0, a1, a2, a3, a4, a5, a6, a7, a8⟩ := (HA1.out.below hb).cells); (clear hb)))
        go_ret
        exact ⟨by simp [checkV, *], HB2.out⟩
      · have f1 : ¬ 24 - (n : Int) < 0 := by omega
        have f2 : ¬ (24 : Int) < (n : Int) := by omega
        have f3 : (kind != 4) = true := bne_iff_ne.2 g2
        go_enter Try.func18, Try.ntmps18
        go_wp2_with (first
          | ((go_at_call 47); (refine (hCC _).out.mono ?_); (rintro e w1 ⟨rfl, hb⟩); (have HB1 := hid_ (below_comp HB0.out hb)); (have HX1 := hid_ (rdi_below HX0.out hb)); (have HK1 := hid_ (HK0.out.below hb)); (have HA1 := hid_ (HA0.out.below hb)); (obtain ⟨c0, c1, c2, c3, c4, c5, c6, c7⟩ := HK1.out.cells); (obtain ⟨a0, a1, a2, a3, a4, a5, a6, a7, a8⟩ := HA1.out.cells); (clear hb))
          | ((go_at_call 48); (refine (hR2 _ _ HX1.out).out.mono ?_); (rintro e w2 ⟨rfl, hb⟩); (have HB2 := hid_ (below_comp HB1.out hb)); (clear c0 c1 c2 c3 c4 c5 c6 c7 a0 a1 a2 a3 a4 a5 a6 a7 a8); (obtain ⟨a0, a1, a2, a3, a4, a5, a6, a7, a8⟩ := (HA1.out.below hb).cells); (clear hb)))
        go_ret
        exact ⟨by simp [checkV, *], HB2.out⟩
      · have f1 : ¬ 24 - (n : Int) < 0 := by omega
        have f2 : ¬ (24 : Int) < (n : Int) := by omega
        have f3 : (kind != 4) = true := bne_iff_ne.2 g2
        go_enter Try.func18, Try.ntmps18
        go_wp2_with (first
          | ((go_at_call 47); (refine (hCC _).out.mono ?_); (rintro e w1 ⟨rfl, hb⟩); (have HB1 := hid_ (below_comp HB0.out hb)); (have HX1 := hid_ (rdi_below HX0.out hb)); (have HK1 := hid_ (HK0.out.below hb)); (have HA1 := hid_ (HA0.out.below hb)); (obtain ⟨c0, c1, c2, c3, c4, c5, c6, c7⟩ := HK1.out.cells); (obtain ⟨a0, a1, a2, a3, a4, a5, a6, a7, a8⟩ := HA1.out.cells); (clear hb))
          | ((go_at_call 48); (refine (hR2 _ _ HX1.out).out.mono ?_); (rintro e w2 ⟨rfl, hb⟩); (have HB2 := hid_ (below_comp HB1.out hb)); (clear c0 c1 c2 c3 c4 c5 c6 c7 a0 a1 a2 a3 a4 a5 a6 a7 a8); (obtain ⟨a0, a1, a2, a3, a4, a5, a6, a7, a8⟩ := (HA1.out.below hb).cells); (clear hb)))
        go_ret
        exact ⟨by simp [checkV, *], HB2.out⟩
end Go.Proofs.Ytlpeijaeiioimaa
