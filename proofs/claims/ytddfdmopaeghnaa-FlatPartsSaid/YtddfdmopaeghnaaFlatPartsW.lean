/- Walk of the law FlatParts: it returns true. Conditions: both slices of nodes lie below the call's own blocks. -/
import Derived.Test.YtddfdmopaeghnaaFlatC
import Derived.Test.YtddfdmopaeghnaaTogW
namespace Go.Proofs.Ytddfdmopaeghnaa
open Go.RowKit

def ndA : Nd := ⟨1, ⟨#[97]⟩, 0⟩
def ndS : Nd := ⟨3, .empty, 0⟩
def ndG : Nd := ⟨8, .empty, 0⟩
def ndD (n : Int) : Nd := ⟨7, .empty, n⟩

theorem Doc.tog {a b : List Nd} {x y : D} (ha : Doc a x) (hb : Doc b y) (hl : a.length + b.length < 400) : Doc (nd6 :: (a ++ b)) (.bin nd6 x y) :=
  ⟨⟨rfl, ha.ok, hb.ok⟩, by rw [D.enc, ha.enc, hb.enc], fun d hd => by
    rcases List.mem_cons.1 hd with rfl | hd
    · decide +kernel
    · rcases List.mem_append.1 hd with hd | hd
      · exact ha.one _ hd
      · exact hb.one _ hd, by simp; omega⟩

theorem Doc.grp {a : List Nd} {x : D} (ha : Doc a x) {n : Int} (h0 : 0 ≤ n) (h8 : n ≤ 8) (hl : a.length + 2 ≤ 400) : Doc (ndG :: ndD n :: a) (.un ndG (.un (ndD n) x)) :=
  ⟨⟨rfl, rfl, ha.ok⟩, by rw [D.enc, D.enc, ha.enc], fun d hd => by
    rcases List.mem_cons.1 hd with rfl | hd
    · decide +kernel
    · rcases List.mem_cons.1 hd with rfl | hd
      · simp [oneF, ndD]; omega
      · exact ha.one _ hd, by simp; omega⟩

theorem Doc.leafA : Doc [ndA] (.leaf ndA) := ⟨rfl, rfl, by simp; decide +kernel, by simp⟩
theorem Doc.leafS : Doc [ndS] (.leaf ndS) := ⟨rfl, rfl, by simp; decide +kernel, by simp⟩

theorem tog_line {x y : D} {s t : ByteArray} {a b : Bool} (hx : lineOf x.flat = (s, a)) (hy : lineOf y.flat = (t, b)) : lineOf (D.flat (.bin nd6 x y)) = joinF (s, a) (t, b) := by
  rw [← hx, ← hy]
  simp only [D.flat, nd6, if_true]
  cases x.flat <;> cases y.flat <;> rfl

theorem fact_line : lineOf (D.flat (.bin nd6 (.leaf ndA) (.leaf ndS))) = (⟨#[97]⟩, true) := by decide +kernel

/-- What a flat text of a doc is at most. -/
theorem Doc.line_le {l : List Nd} {x : D} (h : Doc l x) {s : ByteArray} {b : Bool} (hs : lineOf x.flat = (s, b)) : s.size ≤ 8000 := by
  have h1 := h.flat_len h.pos
  rw [lineAt, h.root, hs] at h1
  have h2 := h.len
  have h3 := D.len_enc x
  rw [← h.enc] at h3
  simp only at h1
  omega

set_option maxRecDepth 100000 in
set_option maxHeartbeats 4000000 in
/-- The closed fact ahead of it. -/
theorem flatParts_any (a b : List Nd) (k : Int) (A B : Option Addr) (c d : Nat) (w : World) (ha : Nds w w.heap.size A a) (hb : Nds w w.heap.size B b) :
    Calls Try.prog 4 #[.slice A a.length c, .slice B b.length d, .int .i64 k] w (Ret w (.bool true)) := by
  have hA1 : ndA.text.size ≤ maxLen := by decide +kernel
  have hS1 : ndS.text.size ≤ maxLen := by decide +kernel
  have L1 := Lib.hid ((Nds.lit1 w ndA w.heap.size rfl hA1).alloc (.cells #[.int .i64 3, .string .empty, .int .i64 0] 32))
  have L2 := Lib.hid (Nds.lit1 (w.alloc (.cells #[.int .i64 1, .string ⟨#[97]⟩, .int .i64 0] 32)) ndS (w.heap.size + 1) (by simp) hS1)
  clear hA1 hS1
  have HA := Lib.hid ha; have HB := Lib.hid hb; clear ha hb
  obtain ⟨i0, hi0, hz0, hz1, hz2⟩ := info_parts node_info
  have hla := HA.out.2.1
  have hlb := HB.out.2.1
  unfold maxLen at hla hlb
  go_enter Try.func4, Try.ntmps4
  go_wp2_with fail
  refine (together_any [ndA] [ndS] 1 1 rfl rfl (by omega) (by omega) _ _ 1 1 _ L1.out L2.out).mono ?_
  rintro e w1 ⟨A1, c1, rfl, n1, hB1⟩
  have hB1' : Below w.heap.size w w1 := (((Below.refl _ _).alloc (Nat.le_refl _) _).alloc (by simp) _).trans (hB1.mono (by simp; omega))
  have N1 := Lib.hid n1; clear n1 hB1
  go_wp2_with fail
  refine (flat_ok (Doc.tog Doc.leafA Doc.leafS (by simp)) fact_line 3 rfl _ _ _ N1.out).mono ?_
  rintro e w2 ⟨rfl, hB2⟩
  have hB2' := hB1'.trans (hB2.mono hB1'.size)
  clear hB1' hB2 N1 L1 L2
  by_cases ea : checkF a = 0
  · obtain ⟨x, da⟩ := Doc.of_check ea
    obtain ⟨s, p, hs⟩ : ∃ s p, lineOf x.flat = (s, p) := ⟨_, _, rfl⟩
    have hsl := da.line_le hs
    have DA := Lib.hid da; have HS := Lib.hid hs
    clear ea da hs
    go_wp2_with fail
    refine (flat_ok DA.out HS.out _ rfl _ _ _ (HA.out.past hB2')).mono ?_
    rintro e w3 ⟨rfl, hB3⟩
    have hB3' := hB2'.trans (hB3.mono hB2'.size)
    clear hB2' hB3
    by_cases eb : checkF b = 0
    · obtain ⟨y, db⟩ := Doc.of_check eb
      obtain ⟨t, q, ht⟩ : ∃ t q, lineOf y.flat = (t, q) := ⟨_, _, rfl⟩
      have htl := db.line_le ht
      have DB := Lib.hid db; have HT := Lib.hid ht
      clear eb db ht
      go_wp2_with fail
      refine (flat_ok DB.out HT.out _ rfl _ _ _ (HB.out.past hB3')).mono ?_
      rintro e w4 ⟨rfl, hB4⟩
      have hB4' := hB3'.trans (hB4.mono hB3'.size)
      clear hB3' hB4
      have h4a := DA.out.len
      have h4b := DB.out.len
      by_cases hlen : a.length + b.length < 400
      · have hpa := DA.out.pos
        have hpb := DB.out.pos
        have TL := Lib.hid (tog_line HS.out HT.out)
        go_wp2_with fail
        refine (together_any a b _ _ rfl rfl (by omega) (by omega) _ _ _ _ _ (HA.out.past hB4') (HB.out.past hB4')).mono ?_
        rintro e w5 ⟨A5, c5, rfl, n5, hB5⟩
        have hB5' := hB4'.trans (hB5.mono hB4'.size)
        have N5 := Lib.hid n5; clear n5 hB5 hB4'
        cases p <;> cases q
        all_goals
          go_wp2_with fail
          refine (flat_ok (DA.out.tog DB.out hlen) TL.out _ (by simp; omega) _ _ _ N5.out).mono ?_
          rintro e w6 ⟨rfl, hB6⟩
          have hB6' := hB5'.trans (hB6.mono hB5'.size)
          clear hB5' hB6
          by_cases hk : k < 0 ∨ 8 < k
          · go_wp2_with fail
            all_goals
              go_ret
              exact ⟨rfl, hB6'⟩
          · have hk0 : 0 ≤ k := by omega
            have hk8 : k ≤ 8 := by omega
            clear hk
            have H0 := Lib.hid (World.ownsRow_lit (base := w6.heap.size) (e := 32) (size := 3) w6 #[.int .i64 8, .string .empty, .int .i64 0, .int .i64 7, .string .empty, .int .i64 k] 2 (Nat.le_refl _) (by simp [maxLen]) (by simp))
            have GL := Lib.hid (DA.out.grp hk0 hk8 (by omega))
            have HA6 := Lib.hid ((HA.out.past hB6').1.alloc (.cells #[.int .i64 8, .string .empty, .int .i64 0, .int .i64 7, .string .empty, .int .i64 k] 32))
            go_wp2_with (at_builtin; refine wpList_app _ rfl (.tmp 104) (.tmp 105) _ rfl w6.heap.size 32 i0 _ 3 32 Try.underlying25 hi0 hz0 hz1 hz2 rfl (by omega) _ 2 _ rfl H0.out _ A a.length c _ rfl HA6.out (nd_one a) (by simp only [maxLen]; omega) (by omega) (by simp) ?_; intro v7 w7 hown7 hg7 hat7; clear hat7; obtain ⟨A7, c7, hv7⟩ := own_slice hown7; subst hv7; have H7 := Lib.hid hown7; have HG7 := Lib.hid hg7; clear hown7 hg7)
            have hB7 : Below w.heap.size w w7 := hB6'.trans ((below_app ((Below.refl _ _).alloc (Nat.le_refl _) _) H0.out HG7.out (by simp) (Nat.le_refl _)).mono hB6'.size)
            have N7 := Lib.hid (Nds.own (l := ndG :: ndD k :: a) (by simpa [ndCells, ndG, ndD] using H7.out) (by simp; omega) (by simp [maxLen]; omega) (by
              intro z hz
              rcases List.mem_cons.1 hz with rfl | hz
              · decide +kernel
              · rcases List.mem_cons.1 hz with rfl | hz
                · simp [ndD, maxLen]
                · exact HA.out.2.2 _ hz))
            go_wp2_with fail
            refine (flat_ok GL.out HS.out (2 + a.length) (by simp; omega) _ _ _ N7.out).mono ?_
            rintro e w8 ⟨rfl, hB8⟩
            have hB8' := hB7.trans (hB8.mono hB7.size)
            go_wp2_with fail
            go_ret
            exact ⟨rfl, hB8'⟩
      · go_wp2
        go_ret
        exact ⟨rfl, hB4'⟩
    · have EB := Lib.hid eb; clear eb
      go_wp2_with fail
      refine (flat_bad EB.out _ rfl _ _ _ (HB.out.past hB3')).mono ?_
      rintro e w4 ⟨rfl, hB4⟩
      have hB4' := hB3'.trans (hB4.mono hB3'.size)
      go_wp2
      go_ret
      exact ⟨rfl, hB4'⟩
  · have EA := Lib.hid ea; clear ea
    go_wp2_with fail
    refine (flat_bad EA.out _ rfl _ _ _ (HA.out.past hB2')).mono ?_
    rintro e w3 ⟨rfl, hB3⟩
    have hB3' := hB2'.trans (hB3.mono hB2'.size)
    clear hB2' hB3
    go_wp2_with fail
    refine (flat_any b _ rfl _ _ _ (HB.out.past hB3')).mono ?_
    rintro e w4 ⟨rfl, hB4⟩
    have hB4' := hB3'.trans (hB4.mono hB3'.size)
    go_wp2
    go_ret
    exact ⟨rfl, hB4'⟩
end Go.Proofs.Ytddfdmopaeghnaa
