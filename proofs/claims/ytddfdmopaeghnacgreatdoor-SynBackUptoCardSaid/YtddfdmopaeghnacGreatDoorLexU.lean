/- Walk of lex.Words: the words of a text, and where they begin; or the fault. No condition but the text's own size. -/
import Derived.Test.YtddfdmopaeghnacGreatDoorLexV
import Derived.Laws.ResultCell
namespace Go.Proofs.YtddfdmopaeghnacGreatDoor
open Go.RowKit

def wordBs (ws : List (Nat × List UInt8)) : List ByteArray := ws.map fun p => ⟨p.2.toArray⟩
def placeV (ws : List (Nat × List UInt8)) : List Value := ws.map fun p => .int .i64 (p.1 : Nat)
/-- The fault of a text: its number, its place. -/
def lexE (s : ByteArray) : Int × Nat :=
  if 60000 < s.size then (3, 0) else
  match (lexL 0 s.data.toList).2 with
  | some i => (5, i)
  | none => if 300 < manyW (wordBs (lexL 0 s.data.toList).1) then (3, 0) else (0, 0)
def lexWs (s : ByteArray) : List (Nat × List UInt8) := (lexL 0 s.data.toList).1

theorem lex_pos : ∀ (n i : Nat) (s : List UInt8), s.length ≤ n → ∀ p ∈ (lexL i s).1, 0 < p.2.length := fun n i s h p hp => (lex_words n i s h p hp).pos

theorem int_info : (Tryz.prog.info? 3).map (fun i => (i.zero, i.size, i.bytes)) = some (some (.int .i64 0), 1, 8) := by kernel_rfl
theorem str_info : (Tryz.prog.info? 9).map (fun i => (i.zero, i.size, i.bytes)) = some (some (.string .empty), 1, 16) := by kernel_rfl

theorem own_slice {w : World} {base : Nat} {e : TypeId} {size n : Nat} {v : Value} {xs : List Value} (h : w.ownsRow base e size v n xs) : ∃ A c, v = .slice A n c := by
  rcases h.2 with ⟨rfl, rfl⟩ | ⟨g, cap, cur, rfl, _⟩
  · exact ⟨none, 0, rfl⟩
  · exact ⟨_, cap, rfl⟩

/-- Two rows of other element types lie in other blocks. -/
theorem rows_apart {w : World} {e f : TypeId} {u v : Value} {m n : Nat} {xs ys : List Value} {B C : Nat} {sz sz' : Nat} (h1 : w.ownsRow B e sz u m xs) (h2 : w.ownsRow C f sz' v n ys) (hef : e ≠ f) : u.ownBlock = none ∨ u.ownBlock ≠ v.ownBlock := by
  rcases h1.2 with ⟨rfl, _⟩ | ⟨g, cap, cur, rfl, _, hg, _⟩
  · exact .inl rfl
  · refine .inr fun he => ?_
    rcases h2.2 with ⟨rfl, _⟩ | ⟨g', cap', cur', rfl, _, hg', _⟩
    · simp [Value.ownBlock] at he
    · simp only [Value.ownBlock, Option.some.injEq] at he
      subst he
      rw [hg] at hg'
      simp only [Option.some.injEq, Obj.cells.injEq] at hg'
      exact hef hg'.2.1

/-- A text with a fault. -/
def LexBad (s : ByteArray) (w : World) (e : Ending) (w' : World) : Prop := e = .returned (.tuple #[.slice none 0 0, .slice none 0 0, .int .i64 ((lexE s).2 : Nat), errV (lexE s).1]) ∧ Below w.heap.size w w'
/-- One without. -/
def LexOk (s : ByteArray) (w : World) (e : Ending) (w' : World) : Prop :=
  ∃ A c A2 c2, e = .returned (.tuple #[.slice A (lexWs s).length c, .slice A2 (lexWs s).length c2, .int .i64 0, .nilIface]) ∧
    Txs w' w'.heap.size A (wordBs (lexWs s)) ∧ Sl w' w'.heap.size 1 A2 (lexWs s).length (placeV (lexWs s)) ∧ Below w.heap.size w w'
/-- The same; the places lie in a row of the call's own. -/
def LexOwn (s : ByteArray) (w : World) (e : Ending) (w' : World) : Prop :=
  ∃ A c A2 c2, e = .returned (.tuple #[.slice A (lexWs s).length c, .slice A2 (lexWs s).length c2, .int .i64 0, .nilIface]) ∧
    Txs w' w'.heap.size A (wordBs (lexWs s)) ∧ w'.ownsRow w.heap.size 3 1 (.slice A2 (lexWs s).length c2) (lexWs s).length (placeV (lexWs s)) ∧ Below w.heap.size w w' ∧ w'.ownsRow w.heap.size 9 1 (.slice A (lexWs s).length c) (lexWs s).length ((wordBs (lexWs s)).map .string)
theorem LexOwn.ok {s : ByteArray} {w : World} {e : Ending} {w' : World} (h : LexOwn s w e w') : LexOk s w e w' := by
  obtain ⟨A, c, A2, c2, h1, h2, h3, h4, _⟩ := h
  exact ⟨A, c, A2, c2, h1, h2, Sl.of_own h3, h4⟩
def LexToO (s : ByteArray) (w : World) (e : Ending) (w' : World) : Prop := ((lexE s).1 ≠ 0 ∧ LexBad s w e w') ∨ ((lexE s).1 = 0 ∧ LexOwn s w e w')
def LexTo (s : ByteArray) (w : World) (e : Ending) (w' : World) : Prop := ((lexE s).1 ≠ 0 ∧ LexBad s w e w') ∨ ((lexE s).1 = 0 ∧ LexOk s w e w')

theorem lex_full {s : ByteArray} (h : 60000 < s.size) : lexE s = (3, 0) := by rw [lexE, if_pos h]
theorem lex_bad {s : ByteArray} {i : Nat} (h : ¬ 60000 < s.size) (hb : (lexL 0 s.data.toList).2 = some i) : lexE s = (5, i) := by rw [lexE, if_neg h, hb]
theorem lex_many {s : ByteArray} (h : ¬ 60000 < s.size) (hb : (lexL 0 s.data.toList).2 = none) : lexE s = if 300 < manyW (wordBs (lexWs s)) then (3, 0) else (0, 0) := by rw [lexE, if_neg h, hb]; rfl

/-- What the rounds have done at place i. -/
def LexAt (s : ByteArray) (i : Nat) (done : List (Nat × List UInt8)) : Prop :=
  lexL 0 s.data.toList = (done ++ (lexL i (s.data.toList.drop i)).1, (lexL i (s.data.toList.drop i)).2) ∧ done.length ≤ i ∧ ∀ p ∈ done, p.2.length ≤ s.size

theorem LexAt.start (s : ByteArray) : LexAt s 0 [] := ⟨by simp, by simp, by simp⟩
theorem LexAt.done_ {s : ByteArray} {i : Nat} {done : List (Nat × List UInt8)} (h : LexAt s i done) (hi : s.size ≤ i) : lexWs s = done ∧ (lexL 0 s.data.toList).2 = none := by
  have h1 := h.1
  rw [List.drop_eq_nil_of_le (by simp; omega), lexL_nil] at h1
  unfold lexWs
  rw [h1]; simp
theorem drop_cons {s : ByteArray} {i : Nat} (hi : i < s.size) : s.data.toList.drop i = s[i] :: s.data.toList.drop (i + 1) := by
  rw [List.drop_eq_getElem_cons (by simpa using hi)]; rfl
theorem LexAt.skip {s : ByteArray} {i : Nat} {done : List (Nat × List UInt8)} (h : LexAt s i done) (hi : i < s.size) (hc : (s[i] == 32 || s[i] == 10) = true) : LexAt s (i + 1) done := by
  have h1 := h.1
  rw [drop_cons hi, lexL_skip hc] at h1
  exact ⟨h1, by have := h.2.1; omega, h.2.2⟩
theorem LexAt.fault {s : ByteArray} {i : Nat} {done : List (Nat × List UInt8)} (h : LexAt s i done) (hi : i < s.size) (hc : (s[i] == 32 || s[i] == 10) = false) (hb : (firstW (s.data.toList.drop i)).2 = false) : (lexL 0 s.data.toList).2 = some i := by
  have h1 := h.1
  rw [drop_cons hi] at hb h1
  rw [lexL_bad hc hb] at h1
  rw [h1]
theorem trimR_le (l : List UInt8) : (trimR l).length ≤ l.length := by
  obtain ⟨k, hk⟩ := trimR_pre l
  have := congrArg List.length hk
  simp at this; omega
theorem LexAt.word {s : ByteArray} {i n : Nat} {done : List (Nat × List UInt8)} (h : LexAt s i done) (hi : i < s.size) (hc : (s[i] == 32 || s[i] == 10) = false) (hb : firstW (s.data.toList.drop i) = (n, true)) :
    0 < n ∧ i + n ≤ s.size ∧ LexAt s (i + n) (done ++ [(i, trimR ((s.data.toList.drop i).take n))]) := by
  have h1 := h.1
  have hb2 := hb
  rw [drop_cons hi] at hb2
  have hp := firstW_pos (c := s[i]) (r := s.data.toList.drop (i + 1)) (by rw [hb2])
  rw [hb2] at hp
  rw [drop_cons hi, lexL_word hc (by rw [hb2]), hb2, ← drop_cons hi] at h1
  simp only [List.length_cons, List.length_drop] at hp
  have hsz : s.data.toList.length = s.size := by simp
  refine ⟨hp.1, by omega, ?_, by rw [List.length_append]; have := h.2.1; simp; omega, ?_⟩
  · rw [h1, List.drop_drop]
    simp
  · intro p hpm
    rcases List.mem_append.1 hpm with h2 | h2
    · exact h.2.2 p h2
    · simp at h2
      subst h2
      have := trimR_le ((s.data.toList.drop i).take n)
      rw [List.length_take, List.length_drop] at this
      show (trimR _).length ≤ _
      omega

theorem trim_lib (l : List UInt8) : Lib.trimRightB l 32 = trimR l := rfl

theorem txs_of {w : World} {B : Nat} {A : Option Addr} {n c : Nat} {ws : List (Nat × List UInt8)} (h : w.ownsRow B 9 1 (.slice A n c) n ((wordBs ws).map .string)) (hn : ws.length = n) (hs : ws.length ≤ 60000) (hz : ∀ p ∈ ws, p.2.length ≤ 60000) : Txs w w.heap.size A (wordBs ws) := by
  refine ⟨?_, by simp [wordBs, maxLen]; omega, ?_⟩
  · have hl : (wordBs ws).length = n := by simp [wordBs, hn]
    rw [hl]
    exact Sl.of_own h
  · intro t ht
    obtain ⟨p, hp, rfl⟩ := List.mem_map.1 ht
    have := hz p hp
    show p.2.toArray.size ≤ maxLen
    simp [maxLen]; omega

set_option maxHeartbeats 2000000 in
set_option maxRecDepth 100000 in
theorem lex_own (s : ByteArray) (w : World) (hs : s.size ≤ maxLen) : Calls Tryz.prog 29 #[.string s] w (LexToO s w) := by
  unfold maxLen at hs
  by_cases h6 : 60000 < s.size
  · have HE := Lib.hid (lex_full h6)
    go_enter Tryz.func29, Tryz.ntmps29
    go_wp2
    refine bodyPost_ret (v := .tuple #[.slice none 0 0, .slice none 0 0, .int .i64 0, .iface 43 (.int .i64 3)]) (by simp [results, Tryz.results29, go_sem]) rfl ?_
    exact .inl ⟨by rw [HE.out]; decide, by rw [HE.out]; rfl, Below.refl _ _⟩
  · obtain ⟨i0, hi0, hz0, hz1, hz2⟩ := info_parts int_info
    obtain ⟨iS, hiS, hzS, hzS1, hzS2⟩ := info_parts str_info
    go_enter Tryz.func29, Tryz.ntmps29
    go_wp2
    go_loopw [2, 3, 6, 7, 8] (fun ws at' i _ _ wr => ∃ (k : Nat) (done : List (Nat × List UInt8)), k ≤ s.size ∧ i = .int .i64 k ∧ LexAt s k done ∧ wr.ownsRow w.heap.size 9 1 ws done.length ((wordBs done).map .string) ∧ wr.ownsRow w.heap.size 3 1 at' done.length (placeV done) ∧ Below w.heap.size w wr) (fun _ _ i _ _ _ => s.size - (intOf i).toNat)
    case atStart => exact ⟨0, [], by omega, rfl, LexAt.start s, World.ownsRow_nil _ _ _ _, World.ownsRow_nil _ _ _ _, Below.refl _ _⟩
    case round =>
      obtain ⟨k, done, hk, rfl, hat, hws, hpl, hB⟩ := hrel
      have hdl := hat.2.1
      have HAT := Lib.hid hat; have HW := Lib.hid hws; have HP := Lib.hid hpl; clear hat hws hpl
      by_cases hlt : k < s.size
      · have e32 := byte_eq s[k] 32
        have e10 := byte_eq s[k] 10
        cases h32 : (s[k] == 32) with
        | true =>
          have h5 : ((s[k].toNat : Int) == 32) = true := by rw [← h32]; exact e32
          have HN := Lib.hid (HAT.out.skip hlt (by rw [h32]; rfl))
          clear e32 e10 h32
          go_wp2
          go_roundw
          case rel => exact ⟨k + 1, done, by omega, by go_num, HN.out, HW.out, HP.out, hB⟩
          case measure => simp [intOf]; omega
        | false =>
          have h5 : ((s[k].toNat : Int) == 32) = false := by rw [← h32]; exact e32
          cases h10 : (s[k] == 10) with
          | true =>
            have h7 : ((s[k].toNat : Int) == 10) = true := by rw [← h10]; exact e10
            have HN := Lib.hid (HAT.out.skip hlt (by rw [h32, h10]; rfl))
            clear e32 e10 h32 h10
            go_wp2
            go_roundw
            case rel => exact ⟨k + 1, done, by omega, by go_num, HN.out, HW.out, HP.out, hB⟩
            case measure => simp [intOf]; omega
          | false =>
            have h7 : ((s[k].toNat : Int) == 10) = false := by rw [← h10]; exact e10
            have hnb : (s[k] == 32 || s[k] == 10) = false := by rw [h32, h10]; rfl
            have hez : (s.extract k s.size).size = s.size - k := by simp
            have HF := Lib.hid (fun w' => first_any (s.extract k s.size) w' (by rw [hez]; simp only [maxLen]; omega) (by rw [hez]; omega))
            rw [Lib.extract_to_end] at HF
            obtain ⟨n, b, hfw⟩ : ∃ n b, firstW (s.data.toList.drop k) = (n, b) := ⟨_, _, rfl⟩
            rw [hfw] at HF
            cases b with
            | false =>
              have HX := Lib.hid (lex_bad h6 (HAT.out.fault hlt hnb (by rw [hfw])))
              clear e32 e10 h32 h10 hnb hfw hez
              go_wp2_with (go_at_call 71; refine (HF.out _).mono ?_; rintro e w' ⟨rfl, rfl⟩)
              refine bodyPost_ret (v := .tuple #[.slice none 0 0, .slice none 0 0, .int .i64 (k : Nat), .iface 43 (.int .i64 5)]) (by simp [results, Tryz.results29, go_sem]) rfl ?_
              exact .inl ⟨by rw [HX.out]; show (5 : Int) ≠ 0; decide, by rw [HX.out]; rfl, hB⟩
            | true =>
              obtain ⟨n0, hn1, hnext⟩ := HAT.out.word hlt hnb hfw
              have hex : (s.extract k (k + n)).data.toList = (s.data.toList.drop k).take n := by rw [Lib.extract_data]; congr 1; omega
              have HT := Lib.hid (fun w' => (Tryz.strings_TrimRight_one (s.extract k (k + n)) 32 (by decide) w' (by simp; omega)).mono fun e u (h : e = _ ∧ u = w') => (⟨h.1, h.2.symm⟩ : e = _ ∧ w' = u))
              rw [hex, trim_lib] at HT
              have hwb : wordBs (done ++ [(k, trimR ((s.data.toList.drop k).take n))]) = wordBs done ++ [⟨(trimR ((s.data.toList.drop k).take n)).toArray⟩] := by simp [wordBs]
              have hpv : placeV (done ++ [(k, trimR ((s.data.toList.drop k).take n))]) = placeV done ++ [.int .i64 (k : Nat)] := by simp [placeV]
              have HNX := Lib.hid hnext; have HWB := Lib.hid hwb; have HPV := Lib.hid hpv
              generalize trimR ((s.data.toList.drop k).take n) = t at *
              clear e32 e10 h32 h10 hnb hfw hez hex hnext hwb hpv
              have hsz := hB.size
              have NE : Hid ((3 : TypeId) ≠ 9) := Lib.hid (by decide)
              go_wp2_with (first
                | (go_at_call 71; refine (HF.out _).mono ?_; rintro e w' ⟨rfl, rfl⟩)
                | (go_at_call 72; refine (HT.out _).mono ?_; rintro e w' ⟨rfl, rfl⟩)
                | (at_builtin; refine wpList_app _ rfl (.tmp 40) (.tmp 48) _ rfl w.heap.size 9 iS (.string .empty) 1 16 Tryz.underlying60 hiS hzS hzS1 hzS2 rfl (by decide) _ done.length _ rfl (HW.out.alloc _) _ _ 1 1 [.string ⟨t.toArray⟩] rfl (Sl.lit (sz := 1) _ #[.string ⟨t.toArray⟩] 9 1 rfl) (by simp [Value.oneCell']) (by simp only [maxLen]; omega) (by omega) (by simp; omega) ?_; intro v3 w3 hown3 hgr3 _; have hB3 : Below w.heap.size w w3 := below_app (hB.alloc hsz _) (HW.out.alloc _) hgr3 (hB.alloc hsz _).size (Nat.le_refl _); have HP3 := Lib.hid ((HP.out.alloc _).kept hgr3 (rows_apart HP.out HW.out NE.out)); have HO3 := Lib.hid hown3; have hsz3 := hB3.size; clear hown3 hgr3)
                | (at_builtin; refine wpList_app _ rfl (.tmp 50) (.tmp 52) _ rfl w.heap.size 3 i0 (.int .i64 0) 1 8 Tryz.underlying23 hi0 hz0 hz1 hz2 rfl (by decide) _ done.length _ rfl (HP3.out.alloc _) _ _ 1 1 [.int .i64 (k : Nat)] rfl (Sl.lit (sz := 1) _ #[.int .i64 (k : Nat)] 3 1 rfl) (by simp [Value.oneCell']) (by simp only [maxLen]; omega) (by omega) (by simp; omega) ?_; intro v4 w4 hown4 hgr4 _; have hB4 : Below w.heap.size w w4 := below_app (hB3.alloc hsz3 _) (HP3.out.alloc _) hgr4 (hB3.alloc hsz3 _).size (Nat.le_refl _); have HO4 := Lib.hid ((HO3.out.alloc _).kept hgr4 (rows_apart HO3.out HP3.out NE.out.symm)); have HP4 := Lib.hid hown4; clear hown4 hgr4))
              go_roundw
              case measure => simp [intOf]; omega
              case rel =>
                have hl : (done ++ [(k, t)]).length = done.length + 1 := by simp
                refine ⟨k + n, done ++ [(k, t)], by omega, by go_num, HNX.out, ?_, ?_, hB4⟩
                · rw [hl, HWB.out, List.map_append]; exact HO4.out
                · rw [hl, HPV.out]; exact HP4.out
      · obtain ⟨hd1, hd2⟩ := HAT.out.done_ (by omega)
        have hle := lex_many h6 hd2
        have hpos : ∀ t ∈ wordBs done, 0 < t.size := by
          intro t ht
          obtain ⟨p, hp, rfl⟩ := List.mem_map.1 ht
          have := lex_pos _ 0 s.data.toList (Nat.le_refl _) p (by rw [← hd1] at hp; exact hp)
          simpa [ByteArray.size] using this
        have hz : ∀ p ∈ done, p.2.length ≤ 60000 := fun p hp => by have := HAT.out.2.2 p hp; omega
        have hln : (wordBs done).length = done.length := by simp [wordBs]
        obtain ⟨A3, c3, rfl⟩ := own_slice HW.out
        obtain ⟨A4, c4, rfl⟩ := own_slice HP.out
        have htx := txs_of HW.out rfl (by omega) hz
        have HM := Lib.hid (many_w (wordBs done) A3 done.length c3 hln wr htx hpos)
        have HTX := Lib.hid htx; have HD1 := Lib.hid hd1
        rw [hd1] at hle
        clear htx hpos hd1 hd2 hz hln
        generalize manyW (wordBs done) = q at *
        by_cases h300 : 300 < q
        · rw [if_pos h300] at hle
          have HE := Lib.hid hle; clear hle
          go_wp2_with (go_at_call 73; refine HM.out.mono ?_; rintro e w' ⟨rfl, rfl⟩)
          refine bodyPost_ret (v := .tuple #[.slice none 0 0, .slice none 0 0, .int .i64 0, .iface 43 (.int .i64 3)]) (by simp [results, Tryz.results29, go_sem]) rfl ?_
          exact .inl ⟨by rw [HE.out]; show (3 : Int) ≠ 0; decide, by rw [HE.out]; rfl, hB⟩
        · rw [if_neg h300] at hle
          have HE := Lib.hid hle; clear hle
          go_wp2_with (go_at_call 73; refine HM.out.mono ?_; rintro e w' ⟨rfl, rfl⟩)
          refine bodyPost_ret (v := .tuple #[.slice A3 done.length c3, .slice A4 done.length c4, .int .i64 0, .nilIface]) (by simp [results, Tryz.results29, go_sem]) rfl ?_
          refine .inr ⟨by rw [HE.out], A3, c3, A4, c4, by rw [HD1.out], ?_, ?_, hB, ?_⟩
          · rw [HD1.out]; exact HTX.out
          · rw [HD1.out]; exact HP.out
          · rw [HD1.out]; exact HW.out
theorem lex_any (s : ByteArray) (w : World) (hs : s.size ≤ maxLen) : Calls Tryz.prog 29 #[.string s] w (LexTo s w) :=
  (lex_own s w hs).mono fun _ _ h => h.elim .inl (fun h => .inr ⟨h.1, h.2.ok⟩)
end Go.Proofs.YtddfdmopaeghnacGreatDoor
