/- Walk of the law WayParts: it returns true (over way.Of's contract). Conditions: the slices lie below the call's own blocks. -/
import Derived.Test.YtddfdmopaeghnaaShowW
import Derived.Test.YtddfdmopaeghnaaPartsP
import Derived.Test.YtddfdmopaeghnaaTogW
namespace Go.Proofs.Ytddfdmopaeghnaa
open Go.RowKit

theorem show_ok (hof : OfSaid) {l : List Nd} {x : D} {ws : List Int} {s : ByteArray} (h : Shown l x ws s) (A : Option Addr) (n c : Nat) (hn : l.length = n) (M : Option Addr) (m cm : Nat) (hm : ws.length = m) (hcm : m ≤ cm) (w : World) (hl : Nds w w.heap.size A l) (hM : NumsI w w.heap.size M ws) :
    Calls Try.prog 15 #[.slice A n c, .slice M m cm] w (Ret w (.tuple #[.string s, .nilIface])) :=
  (show_good hof h.doc A n c hn ws M m cm hm hcm w hl hM h.bits).mono fun _ _ ⟨he, hb⟩ => by
    have : showD x ws = .ok s := by unfold showD; rw [h.lay]
    rw [this] at he
    exact ⟨he, hb⟩
theorem show_no (hof : OfSaid) {l : List Nd} {ws : List Int} {q : Int} (h : showF l ws = .error q) (A : Option Addr) (n c : Nat) (hn : l.length = n) (M : Option Addr) (m cm : Nat) (hm : ws.length = m) (hcm : m ≤ cm) (w : World) (hl : Nds w w.heap.size A l) (hM : NumsI w w.heap.size M ws) :
    Calls Try.prog 15 #[.slice A n c, .slice M m cm] w (Ret w (.tuple #[.string .empty, .iface 22 (.int .i64 q)])) := by
  unfold showF at h
  by_cases he : checkF l = 0
  · rw [if_neg (by simp [he])] at h
    by_cases hb : badBit ws = true
    · rw [if_pos hb] at h
      cases h
      exact (show_bit l A n c hn ws M m cm hm w hl hM he hb).mono fun _ _ ⟨a, b⟩ => ⟨a, b⟩
    · rw [if_neg hb] at h
      obtain ⟨x, hd⟩ := Doc.of_check he
      rw [hd.root] at h
      exact (show_good hof hd A n c hn ws M m cm hm hcm w hl hM (by simpa using hb)).mono fun _ _ ⟨a, b⟩ => by
        rw [h] at a
        exact ⟨a, b⟩
  · rw [if_pos he] at h
    cases h
    exact (show_bad l A n c hn M m cm w hl he).mono fun _ _ ⟨a, b⟩ => ⟨a, b⟩

theorem numsI_nil (w : World) (B : Nat) : NumsI w B none [] := ⟨⟨by simp, fun h => by simp at h⟩, by simp⟩
theorem NumsI.own {w : World} {base n : Nat} {A : Option Addr} {c : Nat} {l : List Int} (h : w.ownsRow base 3 1 (.slice A n c) n (l.map (.int .i64))) (hn : n = l.length) (hm : l.length ≤ maxLen) : NumsI w w.heap.size A l := by
  subst hn
  exact ⟨.of_own h, hm⟩
theorem own_cap {w : World} {base : Nat} {e : TypeId} {size n : Nat} {A : Option Addr} {c : Nat} {xs : List Value} (h : w.ownsRow base e size (.slice A n c) n xs) : n ≤ c := by
  rcases h.2 with ⟨h1, h2⟩ | ⟨g, cap, cur, h1, _, _, h2, _⟩
  · injection h1 with _ h3 _
    omega
  · injection h1 with _ _ h3
    omega
theorem int_one (l : List Int) : ∀ u ∈ l.map (Value.int .i64), u.oneCell' = true := by
  intro u hu
  obtain ⟨x, _, rfl⟩ := List.mem_map.1 hu
  rfl

def ndL : Nd := ⟨4, .empty, 0⟩
def ndD (n : Int) : Nd := ⟨7, .empty, n⟩
theorem Doc.tog {a b : List Nd} {x y : D} (ha : Doc a x) (hb : Doc b y) (hl : a.length + b.length < 400) : Doc (nd6 :: (a ++ b)) (.bin nd6 x y) :=
  ⟨⟨rfl, ha.ok, hb.ok⟩, by rw [D.enc, ha.enc, hb.enc], fun d hd => by
    rcases List.mem_cons.1 hd with rfl | hd
    · decide +kernel
    · rcases List.mem_append.1 hd with hd | hd
      · exact ha.one _ hd
      · exact hb.one _ hd, by simp; omega⟩
theorem Doc.dp {a : List Nd} {x : D} (ha : Doc a x) {n : Int} (h0 : 0 ≤ n) (h8 : n ≤ 8) (hl : a.length + 1 ≤ 400) : Doc (ndD n :: a) (.un (ndD n) x) :=
  ⟨⟨rfl, ha.ok⟩, by rw [D.enc, ha.enc], fun d hd => by
    rcases List.mem_cons.1 hd with rfl | hd
    · simp [oneF, ndD]; omega
    · exact ha.one _ hd, by simp; omega⟩
theorem Doc.leafL : Doc [ndL] (.leaf ndL) := ⟨rfl, rfl, by simp; decide +kernel, by simp⟩
def txtL : ByteArray := ⟨#[10, 32, 32]⟩
theorem shown_fact : Shown [ndD 2, ndL] (.un (ndD 2) (.leaf ndL)) [] txtL :=
  Shown.of (Doc.leafL.dp (by decide) (by decide) (by simp)) rfl (by rfl)

theorem Shown.tog {a b : List Nd} {x y : D} {u v : List Int} {s t : ByteArray} (ha : Shown a x u s) (hb : Shown b y v t) (hl : a.length + b.length < 400) : Shown (nd6 :: (a ++ b)) (.bin nd6 x y) (u ++ v) (s ++ t) :=
  Shown.of (ha.doc.tog hb.doc hl) (badBit_app ha.bits hb.bits) (by
    have e : (0 : Int) + nd6.n = 0 := rfl
    simp only [D.lay]
    rw [if_pos (show nd6.op = 6 from rfl), e, D.lay_more ha.lay]
    simp only [List.nil_append]
    rw [hb.lay])
theorem Shown.deep {a : List Nd} {x : D} {u : List Int} {s : ByteArray} (ha : Shown a x u s) {n : Nat} (h8 : n ≤ 8) (hl : a.length + 1 ≤ 400) : Shown (ndD n :: a) (.un (ndD n) x) u (addB n s) :=
  Shown.of (ha.doc.dp (by omega) (by omega) hl) ha.bits (by
    simp only [D.lay]
    rw [if_pos (show (ndD n).op = 7 from rfl)]
    exact D.lay_deep ha.doc.goodx (by omega) ha.lay)

theorem int_info2 : (Try.prog.info? 3).map (fun i => (i.zero, i.size, i.bytes)) = some (some (.int .i64 0), 1, 8) := by kernel_rfl

/-- The end of the law: so much deeper. -/
def TailTo (w : World) (e : Ending) (w' : World) : Prop := e = .returned (.bool true) ∧ Below w.heap.size w w'

set_option maxRecDepth 100000 in
set_option maxHeartbeats 8000000 in
theorem wayParts_any (hof : OfSaid) (a b : List Nd) (u v : List Int) (k : Int) (A U B V : Option Addr) (c cu d cv : Nat) (w : World) (ha : Nds w w.heap.size A a) (hu : NumsI w w.heap.size U u) (hb : Nds w w.heap.size B b) (hv : NumsI w w.heap.size V v) (hcu : u.length ≤ cu) (hcv : v.length ≤ cv) (hb62 : b.length ≤ 4611686018427387904) :
    Calls Try.prog 6 #[.slice A a.length c, .slice U u.length cu, .slice B b.length d, .slice V v.length cv, .int .i64 k] w (Ret w (.bool true)) := by
  have hD1 : (ndD 2).text.size ≤ maxLen := by decide +kernel
  have hL1 : ndL.text.size ≤ maxLen := by decide +kernel
  have L1 := Lib.hid (Nds.lit2 w (ndD 2) ndL w.heap.size rfl hD1 hL1)
  clear hD1 hL1
  have HOF := Lib.hid hof
  have HA := Lib.hid ha; have HB := Lib.hid hb; have HU := Lib.hid hu; have HV := Lib.hid hv
  have hla := HA.out.2.1
  have hlb := HB.out.2.1
  have hlu := HU.out.2
  have hlv := HV.out.2
  unfold maxLen at hla hlb hlu hlv
  clear ha hb hu hv hof
  obtain ⟨i0, hi0, hz0, hz1, hz2⟩ := info_parts node_info
  obtain ⟨iI, hiI, hzI, hzI1, hzI2⟩ := info_parts int_info2
  go_enter Try.func6, Try.ntmps6
  go_wp2_with fail
  refine (show_ok HOF.out shown_fact _ 2 2 rfl none 0 0 rfl (Nat.le_refl _) _ L1.out (numsI_nil _ _)).mono ?_
  rintro e w1 ⟨rfl, hB1⟩
  have hB1' : Below w.heap.size w w1 := ((Below.refl _ _).alloc (Nat.le_refl _) _).trans (hB1.mono (by simp))
  clear hB1 L1
  have htx : txtL = ⟨#[10, 32, 32]⟩ := rfl
  rw [htx]
  clear htx
  cases hsa : showF a u with
  | error q =>
    have HSA := Lib.hid hsa; clear hsa
    go_wp2_with fail
    refine (show_no HOF.out HSA.out _ _ _ rfl _ _ _ rfl hcu _ (HA.out.past hB1') (HU.out.past hB1')).mono ?_
    rintro e w2 ⟨rfl, hB2⟩
    have hB2' := hB1'.trans (hB2.mono hB1'.size)
    go_wp2
    go_ret
    exact ⟨rfl, hB2'⟩
  | ok s =>
    obtain ⟨x, hsa⟩ := showF_ok hsa
    have HSA := Lib.hid hsa; clear hsa
    go_wp2_with fail
    refine (show_ok HOF.out HSA.out _ _ _ rfl _ _ _ rfl hcu _ (HA.out.past hB1') (HU.out.past hB1')).mono ?_
    rintro e w2 ⟨rfl, hB2⟩
    have hB2' := hB1'.trans (hB2.mono hB1'.size)
    clear hB1' hB2
    have hs14 := HSA.out.size
    have hu4 := HSA.out.few
    have ha4 := HSA.out.doc.len
    by_cases hlen : 400 ≤ a.length + b.length
    · go_wp2
      go_ret
      exact ⟨rfl, hB2'⟩
    have hb4 : b.length < 400 := by omega
    have hk : (∃ q, showF b v = .error q) ∨ (∃ t, showF b v = .ok t) := by
      cases showF b v with
      | error q => exact .inl ⟨q, rfl⟩
      | ok t => exact .inr ⟨t, rfl⟩
    rcases hk with ⟨q, hsb⟩ | ⟨t, hsb⟩
    case' inr =>
      obtain ⟨y, hsb⟩ := showF_ok hsb
      have HSB := Lib.hid hsb; clear hsb
      have ht14 := HSB.out.size
      have hv4 := HSB.out.few
      have hb4' := HSB.out.doc.len
      go_wp2_with fail
      refine (show_ok HOF.out HSB.out _ _ _ rfl _ _ _ rfl hcv _ (HB.out.past hB2') (HV.out.past hB2')).mono ?_
      rintro e w3 ⟨rfl, hB3⟩
      have hB3' := hB2'.trans (hB3.mono hB2'.size)
      clear hB2' hB3
      go_upto_if 62 with fail
      go_cut [] from 62 to 85 (fun wx => Below w.heap.size w wx)
      case first =>
        have ho0 : w3.ownsRow w.heap.size 3 1 (.slice none 0 0) 0 [] := World.ownsRow_nil _ _ _ _
        have H0 := Lib.hid ho0; clear ho0
        have HSL : Hid (Sl w3 w3.heap.size 1 U u.length (u.map (.int .i64))) := Lib.hid (HU.out.past hB3').1
        go_wp2_with (first
          | (at_builtin
             (refine wpList_app _ rfl (.tmp 63) (.tmp 64) _ rfl w.heap.size 3 iI _ 1 8 Try.underlying35 hiI hzI hzI1 hzI2 rfl (by omega) _ 0 _ rfl H0.out _ U u.length cu _ rfl HSL.out (int_one u) (by simp only [maxLen]; omega) (by omega) hB3'.size ?_)
             intro v1 w4 hown1 hg1 hat1
             have hB4 : Below w.heap.size w w4 := below_app hB3' H0.out hg1 hB3'.size (Nat.le_refl _)
             have H1 := Lib.hid hown1
             clear hown1 hg1 hat1)
          | (at_builtin
             refine wpList_app _ rfl (.tmp 66) (.tmp 67) _ rfl w.heap.size 3 iI _ 1 8 Try.underlying35 hiI hzI hzI1 hzI2 rfl (by omega) v1 (0 + u.length) _ rfl H1.out _ V v.length cv _ rfl (HV.out.past hB4).1 (int_one v) (by simp only [maxLen]; omega) (by omega) hB4.size ?_
             intro v2 w5 hown2 hg2 hat2
             have hB5 : Below w.heap.size w w5 := below_app hB4 H1.out hg2 hB4.size (Nat.le_refl _)
             obtain ⟨A2, c2, hv2⟩ := own_slice hown2; subst hv2
             have hc2 : u.length + v.length ≤ c2 := by have := own_cap hown2; omega
             have H2 := Lib.hid (NumsI.own (l := u ++ v) (by simpa using hown2) (by simp) (by simp [maxLen]; omega))
             clear hown2 hg2 hat2))
        clear H0 HSL H1 hB3' hB4
        have ST := Lib.hid (HSA.out.tog HSB.out (by omega))
        go_upto_region 12 with fail
        go_wp2_with fail
        refine (together_any a b _ _ rfl rfl (by omega) (by omega) _ _ _ _ _ (HA.out.past hB5) (HB.out.past hB5)).mono ?_
        rintro e w6 ⟨A6, c6, rfl, n6, hB6⟩
        have hB6' := hB5.trans (hB6.mono hB5.size)
        have N6 := Lib.hid n6
        have M6 := Lib.hid (H2.out.past hB6)
        clear n6 hB6
        go_wp2_with fail
        refine (show_ok HOF.out ST.out A6 (1 + a.length + b.length) c6 (by simp; omega) A2 (u.length + v.length) c2 (by simp) hc2 w6 N6.out M6.out).mono ?_
        rintro e w7 ⟨rfl, hB7⟩
        have hB7' := hB6'.trans (hB7.mono hB6'.size)
        go_wp2_with fail
        go_meet
        case rel => exact hB7'
      case' rest =>
        clear hB3' HSB
        go_upto_region 15 with fail
    case' inl =>
      have HSB := Lib.hid hsb; clear hsb
      go_wp2_with fail
      refine (show_no HOF.out HSB.out _ _ _ rfl _ _ _ rfl hcv _ (HB.out.past hB2') (HV.out.past hB2')).mono ?_
      rintro e wc ⟨rfl, hB3⟩
      have hcut := hB2'.trans (hB3.mono hB2'.size)
      clear hB2' hB3 HSB
      go_upto_region 15 with fail
    all_goals
      by_cases hk : k < 0 ∨ 8 < k
      · go_wp2_with fail
        all_goals
          go_ret
          exact ⟨rfl, hcut⟩
      · obtain ⟨n, rfl⟩ : ∃ n : Nat, k = n := ⟨k.toNat, by omega⟩
        have hn8 : n ≤ 8 := by omega
        have q1 : decide ((n : Int) < 0) = false := decide_eq_false (by omega)
        have q2 : decide ((8 : Int) < (n : Int)) = false := decide_eq_false (by omega)
        have q3 : decide (8 < n) = false := decide_eq_false (by omega)
        clear hk
        have H0 := Lib.hid (World.ownsRow_lit (base := wc.heap.size) (e := 32) (size := 3) wc #[.int .i64 7, .string .empty, .int .i64 n] 1 (Nat.le_refl _) (by simp [maxLen]) (by simp))
        have HA6 := Lib.hid ((HA.out.past hcut).1.alloc (.cells #[.int .i64 7, .string .empty, .int .i64 n] 32))
        go_upto_region 19 with (at_builtin; refine wpList_app _ rfl (.tmp 95) (.tmp 96) _ rfl wc.heap.size 32 i0 _ 3 32 Try.underlying25 hi0 hz0 hz1 hz2 rfl (by omega) _ 1 _ rfl H0.out _ A a.length c _ rfl HA6.out (nd_one a) (by simp only [maxLen]; omega) (by omega) (by simp) ?_; intro v7 w7 hown7 hg7 hat7; clear hat7; obtain ⟨A7, c7, hv7⟩ := own_slice hown7; subst hv7; have H7 := Lib.hid hown7; have HG7 := Lib.hid hg7; clear hown7 hg7)
        have hB7 : Below w.heap.size w w7 := hcut.trans ((below_app ((Below.refl _ _).alloc (Nat.le_refl _) _) H0.out HG7.out (by simp) (Nat.le_refl _)).mono hcut.size)
        have q4 : decide (400 < 1 + a.length) = false := decide_eq_false (by omega)
        have N7 := Lib.hid (Nds.own (l := ndD n :: a) (by simpa [ndCells, ndD] using H7.out) (by simp; omega) (by simp [maxLen]; omega) (by
          intro z hz
          rcases List.mem_cons.1 hz with rfl | hz
          · simp [ndD, maxLen]
          · exact HA.out.2.2 _ hz))
        have SD := Lib.hid (HSA.out.deep hn8 (by omega))
        clear H0 HA6 H7 HG7 hcut q1 q2 q3
        go_wp2_with fail
        clear q4
        go_loop [21, 22, 23] (fun z i _ => ∃ m : Nat, m ≤ s.size ∧ i = .int .i64 m ∧ z = .string (addTo n s m)) (fun _ i _ => s.size - (intOf i).toNat)
        case atStart => exact ⟨0, Nat.zero_le _, rfl, by rw [addTo_zero]; rfl⟩
        case round =>
          obtain ⟨m, hm, rfl, rfl⟩ := hrel
          have hz := addTo_size hn8 hs14 m
          by_cases hlt : m < s.size
          · have he : (s.extract m (m + 1)).size = 1 := by simp; omega
            by_cases h10 : s[m] = 10
            · have HNL := Lib.hid (addTo_nl (n := n) hlt h10)
              have q5 : s[m].toNat = 10 := by rw [h10]; rfl
              generalize addTo n s m = J at *
              go_wp2_with fail
              go_loop [21, 23] (fun z j => ∃ q : Nat, q ≤ n ∧ j = .int .i64 q ∧ z = .string (J ++ s.extract m (m + 1) ++ blanksB q)) (fun _ j => n - (intOf j).toNat)
              case atStart => exact ⟨0, Nat.zero_le _, rfl, by rw [blanksB_zero]⟩
              case round =>
                obtain ⟨q, hq, rfl, rfl⟩ := hrel
                have hbs : (blanksB q).size = q := by simp [blanksB, ByteArray.size]
                by_cases hq2 : q < n
                · have HBS := Lib.hid (blanksB_succ (J ++ s.extract m (m + 1)) q)
                  have hz2 : (J ++ s.extract m (m + 1) ++ blanksB q).size ≤ 12600020 := by simp only [ByteArray.size_append]; omega
                  generalize J ++ s.extract m (m + 1) ++ blanksB q = J2 at *
                  go_wp2_with fail
                  go_round
                  case rel => exact ⟨q + 1, by omega, by go_num, by rw [← HBS.out]⟩
                  case measure => simp [intOf]; omega
                · obtain rfl : q = n := by omega
                  go_wp2_with fail
                  go_round
                  case rel => exact ⟨m + 1, by omega, by go_num, by rw [HNL.out]⟩
                  case measure => simp [intOf]; omega
            · have HNL := Lib.hid (addTo_no (n := n) hlt h10)
              have q5 : s[m].toNat ≠ 10 := fun h => h10 (UInt8.toNat_inj.1 h)
              have q6 : decide (s[m].toNat = 10) = false := decide_eq_false q5
              have q7 : decide ((s[m].toNat : Int) = 10) = false := decide_eq_false (by omega)
              generalize addTo n s m = J at *
              go_wp2_with fail
              go_loop [21, 23] (fun z j => j = .int .i64 0 ∧ z = .string (J ++ s.extract m (m + 1))) (fun _ j => n)
              case atStart => exact ⟨rfl, rfl⟩
              case round =>
                obtain ⟨rfl, rfl⟩ := hrel
                rcases Nat.eq_zero_or_pos n with h0 | h0
                · subst h0
                  go_wp2_with fail
                  go_round
                  case rel => exact ⟨m + 1, by omega, by go_num, by rw [HNL.out]⟩
                  case measure => simp [intOf]; omega
                · have q8 : decide (0 < n) = true := decide_eq_true h0
                  have q9 : decide ((0 : Int) < (n : Int)) = true := decide_eq_true (by omega)
                  go_wp2_with fail
                  go_round
                  case rel => exact ⟨m + 1, by omega, by go_num, by rw [HNL.out]⟩
                  case measure => simp [intOf]; omega
          · have HZ := Lib.hid (addTo_end (n := n) (show s.size ≤ m by omega))
            go_wp2_with fail
            refine (show_ok HOF.out SD.out A7 (1 + a.length) c7 (by simp; omega) U u.length cu rfl hcu w7 N7.out (HU.out.past hB7)).mono ?_
            rintro e w8 ⟨rfl, hB8⟩
            have hB8' := hB7.trans (hB8.mono hB7.size)
            rw [HZ.out]
            go_wp2_with fail
            go_ret
            exact ⟨rfl, hB8'⟩
end Go.Proofs.Ytddfdmopaeghnaa
