/- Contracts of image.Right, image.cell, image.Encode and lightshiplaw10.Same. No condition beyond those each theorem names. -/
import Derived.Test.YtmejngojpffcgaaKbase
import Derived.Lib.AppendStr
import Derived.Test.YtmejngojpffcgaaKscan
section
/- A word as Lean's own data. -/
namespace Go.Ls
structure Wd where
  name : List UInt8
  flags : UInt8
  code : List UInt32
def letter (c : UInt8) : Bool := 32 < c && c ≤ 126
def Wd.right (x : Wd) : Bool := !(x.name.length == 0 || decide (31 < x.name.length) || x.flags &&& ~~~3 != 0 || decide (1000 < x.code.length)) && x.name.all letter
def le4 (x : UInt32) : List UInt8 := [x.toUInt8, (x >>> 8).toUInt8, (x >>> 16).toUInt8, (x >>> 24).toUInt8]
def Wd.bytes (x : Wd) : List UInt8 := [UInt8.ofNat x.name.length, x.flags, UInt8.ofNat x.code.length, UInt8.ofNat (x.code.length / 256)] ++ (x.name ++ x.code.flatMap le4)
def encode (l : List Wd) : Option (List UInt8) := if l.all Wd.right then some (l.flatMap Wd.bytes) else none

def str (l : List UInt8) : Value := .string ⟨l.toArray⟩
def wdV (x : Wd) (cv : Value) : Value := .agg #[str x.name, .int .u8 (b8 x.flags), cv]
def WdAt (S : Nat → Prop) (w : World) (v : Value) (x : Wd) : Prop := ∃ cv, v = wdV x cv ∧ Sl32 S w cv x.code
@[go_sem] theorem andNot_b8_3 (a : UInt8) : bits .andNot .u8 (b8 a) 3 = b8 (a &&& ~~~3) := andNot_b8 a 3
theorem b8_eq0 (a : UInt8) : b8 a = 0 ↔ a = 0 := ⟨fun h => b8_inj h, fun h => by rw [h]; rfl⟩
end Go.Ls
end

section
namespace Go.Proofs.Ytmejngojpffcgaa
open Go.RowKit Go.Ls

theorem letter1 (x : UInt8) (w : World) : Calls Try.prog 91 #[.int .u8 (b8 x)] w fun e w' => e = .returned (.bool (letter x)) ∧ w = w' := by
  have hl : letter x = (decide (32 < b8 x) && decide (b8 x ≤ 126)) := by
    unfold letter b8
    congr 1
    · exact decide_eq_decide.2 (by rw [UInt8.lt_iff_toNat_lt]; simp; omega)
    · exact decide_eq_decide.2 (by rw [UInt8.le_iff_toNat_le]; simp; omega)
  rw [hl]
  go_enter Try.func91, Try.ntmps91
  by_cases h1 : 32 < b8 x
  · go_wp2_with fail
    go_ret
    exact ⟨ret_bool (by simp [h1]), rfl⟩
  · go_wp2_with fail
    go_ret
    exact ⟨ret_bool (by rw [decide_eq_false (by omega)]; rfl), rfl⟩
set_option maxRecDepth 100000 in
set_option maxHeartbeats 400000 in
theorem image_right {S : Nat → Prop} (v : Value) (x : Wd) (w : World) (hx : WdAt S w v x) :
    Calls Try.prog 61 #[v] w fun e w' => e = .returned (.bool x.right) ∧ Below w.heap.size w w' := by
  obtain ⟨cv, rfl, A, c, rfl, hc, hr⟩ := hx
  obtain ⟨name, flags, code⟩ := x
  simp only [wdV] at *
  have hlen : (⟨name.toArray⟩ : ByteArray).size = name.length := by simp [ByteArray.size]
  have hln : ∀ W : World, (Builtin.len_ #[9] 3 #[str name]).run Try.prog W = .ok (.int .i64 name.length) W := fun W => by
    rw [str, run_len_string W 9 3 _ Try.underlying9, hlen]
    rfl
  have hidx : ∀ (k : Nat) (y : UInt8) (W : World), name[k]? = some y → (Instr.index 9 (str name) (.int .i64 k)).run Try.prog W = .ok (.int .u8 (b8 y)) W := fun k y W hy => by
    have hk := (List.getElem?_eq_some_iff.1 hy).1
    rw [str, run_index_string W 9 _ .i64 k Try.underlying9, dif_pos (by rw [hlen]; omega)]
    have : name[k] = y := (List.getElem?_eq_some_iff.1 hy).2
    subst this
    rfl
  have hbe : Below w.heap.size w (w.alloc (.cells #[str name, .int .u8 (b8 flags), .slice A code.length c] 25)) := (Below.refl _ w).alloc (Nat.le_refl _) _
  have hb := Blk.new w 25 #[str name, .int .u8 (b8 flags), .slice A code.length c]
  have h0 := hb.cellv (j := 0) rfl
  have h1 := hb.cellv (j := 1) rfl
  have h2 := hb.cellv (j := 2) rfl
  simp only [List.getElem_toArray, List.getElem_cons_zero, List.getElem_cons_succ] at h0 h1 h2
  generalize hs : str name = sv at *
  have hf3 : b8 (flags &&& ~~~3) = 0 ↔ flags &&& ~~~3 = 0 := b8_eq0 _
  by_cases c1 : name = []
  · subst c1
    go_enter Try.func61, Try.ntmps61
    go_wp2_with fail
    go_ret
    exact ⟨ret_bool (by simp [Wd.right]), hbe⟩
  · have c1' : ¬ (name.length : Int) = 0 := fun e => c1 (List.eq_nil_of_length_eq_zero (by omega))
    have c1n : (name.length == 0) = false := by simpa using c1
    by_cases c2 : 31 < name.length
    · have c2' : ¬ (name.length : Int) ≤ 31 := by omega
      go_enter Try.func61, Try.ntmps61
      go_wp2_with fail
      go_ret
      exact ⟨ret_bool (by simp [Wd.right, c2]), hbe⟩
    · by_cases c3 : flags &&& ~~~3 = 0
      · rw [c3] at hf3
        by_cases c4 : 1000 < code.length
        · have c4' : ¬ (code.length : Int) ≤ 1000 := by omega
          have c3' : b8 (flags &&& ~~~3) = 0 := by rw [c3]; rfl
          go_enter Try.func61, Try.ntmps61
          go_wp2_with fail
          go_ret
          exact ⟨ret_bool (by simp [Wd.right, c4]), hbe⟩
        · have c3' : b8 (flags &&& ~~~3) = 0 := by rw [c3]; rfl
          have hres : (Wd.mk name flags code).right = name.all letter := by simp [Wd.right, c1, c2, c3, c4]
          rw [hres]
          have hb00 : b8 0 = 0 := rfl
          have c1b : ((name.length : Int) == 0) = false := by simpa using c1'
          have c4' : ¬ 1000 < (code.length : Int) := by omega
          have c2' : ¬ 31 < (name.length : Int) := by omega
          have Hidx := Lib.hid hidx; clear hidx
          go_enter Try.func61, Try.ntmps61
          go_wp2_with fail
          go_loop [28] (fun i => ∃ k : Nat, k ≤ name.length ∧ i = .int .i64 k ∧ Hid (∀ j y, name[j]? = some y → j < k → letter y = true)) (fun i => name.length - (intOf i).toNat)
          case atStart => exact ⟨0, Nat.zero_le _, rfl, fun j y _ h => by omega⟩
          case round =>
            obtain ⟨k, hk, rfl, hno⟩ := hrel
            by_cases hlt : k < name.length
            · have hy : name[k]? = some name[k] := List.getElem?_eq_getElem hlt
              have hix := fun W => Hidx.out k _ W hy
              have Hy := Lib.hid hy; clear hy
              generalize name[k] = y at *
              cases hl : letter y with
              | true =>
                have Hl := Lib.hid hl
                have HX := letter1 y
                rw [hl] at HX
                clear hl
                go_wp2_with (first | (refine (HX _).mono ?_; rintro e w' ⟨rfl, rfl⟩))
                go_round
                case rel => exact ⟨k + 1, by omega, by go_num, fun j x hj h => by
                  rcases Nat.lt_or_ge j k with h' | h'
                  · exact hno.out j x hj h'
                  · have : j = k := by omega
                    subst this
                    rw [Hy.out] at hj
                    cases hj
                    exact Hl.out⟩
                case measure => simp [intOf]; omega
              | false =>
                have Hl := Lib.hid hl
                have HX := letter1 y
                rw [hl] at HX
                clear hl
                go_wp2_with (first | (refine (HX _).mono ?_; rintro e w' ⟨rfl, rfl⟩))
                go_ret
                refine ⟨ret_bool ?_, hbe⟩
                symm
                rw [List.all_eq_false]
                exact ⟨y, List.mem_of_getElem? Hy.out, by rw [Hl.out]; simp⟩
            · obtain rfl : k = name.length := by omega
              go_wp2_with fail
              go_ret
              refine ⟨ret_bool ?_, hbe⟩
              symm
              rw [List.all_eq_true]
              intro y hy
              obtain ⟨j, hj, rfl⟩ := List.mem_iff_getElem.1 hy
              exact hno.out j _ (List.getElem?_eq_getElem hj) hj
      · have c3' : ¬ b8 (flags &&& ~~~3) = 0 := fun e => c3 ((b8_eq0 _).1 e)
        go_enter Try.func61, Try.ntmps61
        go_wp2_with fail
        go_ret
        exact ⟨ret_bool (by simp [Wd.right, c3]), hbe⟩
end Go.Proofs.Ytmejngojpffcgaa
end

section
namespace Go.Ls
def cell4 (a b c d : UInt8) : UInt32 := a.toUInt32 ||| (b.toUInt32 <<< 8) ||| (c.toUInt32 <<< 16) ||| (d.toUInt32 <<< 24)
theorem shl_w32 (a : UInt32) (n : Nat) (h : n < 32) : w32 a * (2 ^ n : Nat) % 4294967296 = w32 (a <<< UInt32.ofNat n) := by
  unfold w32
  rw [UInt32.toNat_shiftLeft, Nat.shiftLeft_eq]
  have : (UInt32.ofNat n).toNat % 32 = n := by simp; omega
  rw [this]
  simp
theorem cell4_or (a b c d : UInt8) : bits .or .u32 (bits .or .u32 (bits .or .u32 (w32 a.toUInt32) (w32 b.toUInt32 * 256 % 4294967296)) (w32 c.toUInt32 * 65536 % 4294967296)) (w32 d.toUInt32 * 16777216 % 4294967296) = w32 (cell4 a b c d) := by
  rw [show w32 b.toUInt32 * (256 : Int) % (4294967296 : Int) = w32 (b.toUInt32 <<< 8) from shl_w32 _ 8 (by omega), show w32 c.toUInt32 * (65536 : Int) % (4294967296 : Int) = w32 (c.toUInt32 <<< 16) from shl_w32 _ 16 (by omega),
    show w32 d.toUInt32 * (16777216 : Int) % (4294967296 : Int) = w32 (d.toUInt32 <<< 24) from shl_w32 _ 24 (by omega), or_w32, or_w32, or_w32]
  rfl
end Go.Ls
namespace Go.Proofs.Ytmejngojpffcgaa
open Go.RowKit Go.Ls
set_option maxRecDepth 100000 in
set_option maxHeartbeats 400000 in
theorem image_cell {S : Nat → Prop} (v : Value) (a b c d : UInt8) (w : World) (hl : Sl8 S w v [a, b, c, d]) :
    Calls Try.prog 81 #[v] w fun e w' => e = .returned (.int .u32 (w32 (cell4 a b c d))) ∧ ∃ n, w' = w.drewN n := by
  obtain ⟨A, cc, rfl, hc, hr⟩ := hl
  obtain ⟨bb, o, rfl, h0, h1, h2, h3⟩ := cells4 hr (by simp)
  simp only [List.length_cons, List.length_nil] at *
  go_enter Try.func81, Try.ntmps81
  go_wp2_with fail
  go_quiet (fail)
  go_wp2_with fail
  go_ret
  exact ⟨ret_int (cell4_or a b c d), _, rfl⟩
end Go.Proofs.Ytmejngojpffcgaa
end

section
/- Words in memory: rows of three cells a word. -/
namespace Go.Ls
open Go.RowKit

def wcells (p : Wd × Value) : List Value := [str p.1.name, .int .u8 (b8 p.1.flags), p.2]
/-- A row of words; S: the blocks in which all of it may lie. -/
def WordsAt (S : Nat → Prop) (w : World) (v : Value) (l : List Wd) : Prop :=
  ∃ ps : List (Wd × Value), ps.map (·.1) = l ∧ Sl S w v l.length (ps.flatMap wcells) ∧ ∀ p ∈ ps, Sl32 S w p.2 p.1.code
theorem wcells_get (ps : List (Wd × Value)) (i r : Nat) (hr : r < 3) (p : Wd × Value) (hp : ps[i]? = some p) : (ps.flatMap wcells)[i * 3 + r]? = (wcells p)[r]? := by
  induction ps generalizing i with
  | nil => simp at hp
  | cons q qs ih =>
    rw [List.flatMap_cons]
    cases i with
    | zero =>
      obtain rfl : q = p := by simpa using hp
      rw [List.getElem?_append_left (by simp [wcells]; omega)]
      congr 1; omega
    | succ i =>
      rw [List.getElem?_append_right (by simp [wcells]; omega)]
      rw [← ih i (by simpa using hp)]
      congr 1
      simp [wcells]; omega
theorem wcells_length (ps : List (Wd × Value)) : (ps.flatMap wcells).length = ps.length * 3 := by
  induction ps with
  | nil => rfl
  | cons q qs ih => rw [List.flatMap_cons, List.length_append, ih]; simp [wcells]; omega
section
variable {S S' : Nat → Prop} {w w' : World} {v : Value} {l : List Wd}
theorem WordsAt.mono (h : WordsAt S w v l) (hS : ∀ b, S b → S' b) : WordsAt S' w v l := by
  obtain ⟨ps, h1, h2, h3⟩ := h
  exact ⟨ps, h1, h2.mono hS, fun p hp => Sl.mono (h3 p hp) hS⟩
theorem WordsAt.keep (h : WordsAt S w v l) (hk : ∀ b, b < w.heap.size → S b → w'.heap[b]? = w.heap[b]?) : WordsAt S w' v l := by
  obtain ⟨ps, h1, h2, h3⟩ := h
  exact ⟨ps, h1, h2.keep hk, fun p hp => Sl.keep (h3 p hp) hk⟩
theorem WordsAt.below (h : WordsAt S w v l) (hb : Below w.heap.size w w') : WordsAt S w' v l := h.keep fun b hlt _ => hb.block b hlt
theorem WordsAt.bound (h : WordsAt S w v l) : WordsAt (fun b => S b ∧ b < w.heap.size) w v l := by
  obtain ⟨ps, h1, h2, h3⟩ := h
  exact ⟨ps, h1, h2.bound, fun p hp => Sl.bound (h3 p hp)⟩
theorem WordsAt.nil (S : Nat → Prop) (w : World) : WordsAt S w (.slice none 0 0) [] := ⟨[], rfl, ⟨_, 0, rfl, Nat.le_refl _, Row.none_ _ _ _⟩, fun p hp => by cases hp⟩
/-- One word of a row: its three cells, and its code. -/
theorem WordsAt.word {A : Option Addr} {n c : Nat} (h : WordsAt S w (.slice A n c) l) {i : Nat} {x : Wd} (hx : l[i]? = some x) :
    n = l.length ∧ ∃ b o cv, A = some ⟨b, o, none⟩ ∧ S b ∧ w.cell? ⟨b, o + i * 3, none⟩ = some (str x.name) ∧ w.cell? ⟨b, o + i * 3 + 1, none⟩ = some (.int .u8 (b8 x.flags)) ∧ w.cell? ⟨b, o + i * 3 + 2, none⟩ = some cv ∧ Sl32 S w cv x.code := by
  obtain ⟨ps, h1, ⟨A', c', e, hc, hr⟩, h3⟩ := h
  cases e
  refine ⟨rfl, ?_⟩
  rw [← h1, List.getElem?_map, Option.map_eq_some_iff] at hx
  obtain ⟨p, hp, rfl⟩ := hx
  have hlt := (List.getElem?_eq_some_iff.1 hp).1
  obtain ⟨b, o, e, hs, hcell⟩ := hr (by rw [wcells_length]; omega)
  refine ⟨b, o, p.2, e, hs, ?_, ?_, ?_, h3 p (List.mem_of_getElem? hp)⟩
  · exact hcell (i * 3) _ ((wcells_get ps i 0 (by omega) p hp).trans rfl)
  · rw [Nat.add_assoc]; exact hcell (i * 3 + 1) _ ((wcells_get ps i 1 (by omega) p hp).trans rfl)
  · rw [Nat.add_assoc]; exact hcell (i * 3 + 2) _ ((wcells_get ps i 2 (by omega) p hp).trans rfl)
end
end Go.Ls
end

section
namespace Go.Proofs.Ytmejngojpffcgaa
open Go.RowKit Go.Ls

theorem info8 : (Try.prog.info? 5).map (fun i => (i.zero, i.size, i.bytes)) = some (some (.int .u8 0), 1, 1) := by kernel_rfl
theorem app_str (w : World) (base : Nat) (ty : TypeId) (v : Value) (n : Nat) (xs : List Value) (hown : w.ownsRow base 5 1 v n xs) (name : List UInt8) (hn : n + name.length ≤ 140737488355328) (hb : base ≤ w.heap.size) :
    ∃ A c w', (Builtin.append_ #[27, 9] ty #[v, str name]).run Try.prog w = .ok (.slice A (n + name.length) c) w' ∧ w'.ownsRow base 5 1 (.slice A (n + name.length) c) (n + name.length) (xs ++ u8s name) ∧ w.grownBy w' v.ownBlock := by
  obtain ⟨i0, hi, hz0, hz1, hz2⟩ := info_parts info8
  have hs : (⟨name.toArray⟩ : ByteArray).size = name.length := by simp [ByteArray.size]
  obtain ⟨v', w', h1, h2, h3, _⟩ := Lib.run_append_own_string (P := Try.prog) (w := w) base 27 9 ty 5 i0 Try.underlying27 Try.underlying9 hi hz0 hz1 hz2 v n xs hown ⟨name.toArray⟩
    (by rw [hs]; have : maxLen = 9223372036854775807 := rfl; omega) (by rw [hs]; exact hn) hb
  rw [hs] at h2
  obtain ⟨A, c, rfl, _⟩ := own_form h2
  refine ⟨A, c, w', h1, ?_, h3⟩
  have hc : Lib.strCells ⟨name.toArray⟩ = u8s name := by simp [Lib.strCells, u8s, b8]
  rwa [hc] at h2
theorem len_str (name : List UInt8) (W : World) : (Builtin.len_ #[9] 3 #[str name]).run Try.prog W = .ok (.int .i64 name.length) W := by
  rw [str, run_len_string W 9 3 _ Try.underlying9]
  rfl
theorem right_bounds {x : Wd} (h : x.right = true) : x.name.length ≤ 31 ∧ x.code.length ≤ 1000 := by
  simp only [Wd.right, Bool.and_eq_true, Bool.not_eq_true', Bool.or_eq_false_iff, decide_eq_false_iff_not] at h
  omega
theorem flat4_length (c : List UInt32) : (c.flatMap le4).length = 4 * c.length := by
  induction c with
  | nil => rfl
  | cons a t ih => simp only [List.flatMap_cons, List.length_append, ih, le4, List.length_cons, List.length_nil]; omega
theorem zeroWord : (Try.prog.info? 25).map (·.size) = some 3 := by kernel_rfl
def RetEnc (w : World) (r : Option (List UInt8)) (e : Ending) (w' : World) : Prop :=
  Below w.heap.size w w' ∧ match r with
  | none => e = .returned (.tuple #[.slice none 0 0, .int .i64 100])
  | some b => ∃ v, e = .returned (.tuple #[v, .int .i64 0]) ∧ w'.ownsRow w.heap.size 5 1 v b.length (u8s b)
set_option maxRecDepth 100000 in
set_option maxHeartbeats 1000000 in
theorem image_encode {S : Nat → Prop} (v : Value) (l : List Wd) (w : World) (hl : WordsAt S w v l) (hn : l.length ≤ 1048576) :
    Calls Try.prog 57 #[v] w (RetEnc w (encode l)) := by
  have Hl := Lib.hid hl.bound
  have hform : ∃ A c, v = .slice A l.length c := by obtain ⟨ps, _, ⟨A, c, e, _⟩, _⟩ := hl; exact ⟨A, c, e⟩
  clear hl
  obtain ⟨A, c, rfl⟩ := hform
  go_enter Try.func57, Try.ntmps57
  go_wp2_with fail
  go_loopw [4, 12] (fun out i wr => ∃ (k : Nat) (A' : Option Addr) (c' n' : Nat), k ≤ l.length ∧ i = .int .i64 k ∧ out = .slice A' n' c' ∧ n' ≤ k * 4040 ∧ Hid (n' = ((l.take k).flatMap Wd.bytes).length) ∧
      Hid (wr.ownsRow w.heap.size 5 1 (.slice A' n' c') n' (u8s ((l.take k).flatMap Wd.bytes))) ∧ Hid ((l.take k).all Wd.right = true) ∧ Hid (Below w.heap.size w wr))
    (fun _ i _ => l.length - (intOf i).toNat)
  case atStart => exact ⟨0, none, 0, 0, Nat.zero_le _, rfl, rfl, Nat.zero_le _, rfl, World.ownsRow_nil _ _ _ _, rfl, Below.refl _ _⟩
  case round =>
    rename World => wo
    obtain ⟨k, A', c', n', hk, rfl, rfl, hn', hlen, hown, hright, hbe⟩ := hrel
    by_cases hlt : k < l.length
    · have hx : l[k]? = some l[k] := List.getElem?_eq_getElem hlt
      have Hlw := Lib.hid (Hl.out.keep (w' := wo) fun b _ hs => hbe.out.block b hs.2)
      obtain ⟨_, b, o, cv, rfl, hs, h0, h1, h2, h3⟩ := Hlw.out.word hx
      have Hx := Lib.hid hx; clear hx
      generalize l[k] = x at *
      obtain ⟨name, flags, code⟩ := x
      simp only at h0 h1 h2 h3
      obtain ⟨Ac, cc, rfl, hcc, hrc⟩ := h3
      have Hrc := Lib.hid hrc; clear hrc
      have hln := len_str name
      have hall : (#[str name, .int .u8 (b8 flags), .slice Ac code.length cc] : Array Value).all (·.oneCell') = true := by simp [str, Value.oneCell']
      have hbe1 : Below wo.heap.size wo _ := below_setRow ((Below.refl _ wo).alloc (Nat.le_refl _) (.cells #[.string ⟨#[]⟩, .int .u8 0, .slice none 0 0] 25)) (Nat.le_refl _) #[str name, .int .u8 (b8 flags), .slice Ac code.length cc]
      have hZ := Blk.new wo 25 #[.string ⟨#[]⟩, .int .u8 0, .slice none 0 0]
      have hB := hZ.row #[str name, .int .u8 (b8 flags), .slice Ac code.length cc]
      have HZ := Lib.hid hZ; clear hZ
      generalize hsv : str name = sv at *
      have Hwd := Lib.hid zeroWord
      go_wp2_with (refine wpList_store_row rfl 25 _ _ rfl wo.heap.size #[sv, .int .u8 (b8 flags), .slice Ac code.length cc] rfl rfl 25 _ HZ.out Hwd.out rfl hall ?_; refine stop_here ?_)
      obtain ⟨w1, hw1⟩ : ∃ w1, ((wo.alloc (.cells #[.string ⟨#[]⟩, .int .u8 0, .slice none 0 0] 25)).setRow wo.heap.size #[sv, .int .u8 (b8 flags), .slice Ac code.length cc]) = w1 := ⟨_, rfl⟩
      rw [hw1] at hbe1 hB ⊢
      clear hw1
      have g0 := hB.cellv (j := 0) rfl
      have g1 := hB.cellv (j := 1) rfl
      have g2 := hB.cellv (j := 2) rfl
      simp only [List.getElem_toArray, List.getElem_cons_zero, List.getElem_cons_succ] at g0 g1 g2
      have HW1 := Lib.hid (show WdAt (fun b => S b ∧ b < w.heap.size) w1 (.agg #[sv, .int .u8 (b8 flags), .slice Ac code.length cc]) ⟨name, flags, code⟩ from ⟨_, by rw [← hsv]; rfl, _, _, rfl, hcc, Hrc.out.below hbe1⟩)
      have Hright := image_right _ _ w1 HW1.out
      have HB := Lib.hid hB; clear hB
      have Hbe1 := Lib.hid hbe1; clear hbe1
      clear h0 h1 h2
      refine go_on ?_
      cases hrw : (Wd.mk name flags code).right with
      | false =>
        rw [hrw] at Hright
        have hres : encode l = none := by
          unfold encode
          rw [if_neg]
          intro h
          have := List.all_eq_true.1 h _ (List.mem_of_getElem? Hx.out)
          rw [hrw] at this
          cases this
        go_wp2_with fail
        refine Hright.mono ?_
        rintro e w2 ⟨rfl, hb2⟩
        have HB2 := Lib.hid (below_then hbe.out hbe.out.size (below_next Hbe1.out hb2)); clear hb2
        go_wp2_with fail
        go_ret2
        rw [hres]
        exact ⟨HB2.out, rfl⟩
      | true =>
        rw [hrw] at Hright
        go_wp2_with fail
        refine Hright.mono ?_
        rintro e w2 ⟨rfl, hb2⟩
        have HG := Lib.hid (HB.out.below hb2 HB.out.lt)
        have g0' := HG.out.cellv (j := 0) rfl
        have g1' := HG.out.cellv (j := 1) rfl
        have g2' := HG.out.cellv (j := 2) rfl
        simp only [List.getElem_toArray, List.getElem_cons_zero, List.getElem_cons_succ] at g0' g1' g2'
        have HB2 := Lib.hid (below_next Hbe1.out hb2)
        clear hb2 g0 g1 g2
        obtain ⟨pre, hpre⟩ : ∃ pre, (l.take k).flatMap Wd.bytes = pre := ⟨_, rfl⟩
        rw [hpre] at hlen hown
        have Hpre := Lib.hid hpre; clear hpre
        have Hrb := Lib.hid (show name.length ≤ 31 ∧ code.length ≤ 1000 from right_bounds hrw)
        have e1 : (name.length : Int) % 256 = b8 (UInt8.ofNat name.length) := by unfold b8; simp
        have e2 : (code.length : Int) % 256 = b8 (UInt8.ofNat code.length) := by unfold b8; simp
        have e3 : (code.length : Int) / 256 % 256 = b8 (UInt8.ofNat (code.length / 256)) := by unfold b8; simp
        have HO2 := Lib.hid (own_below hown.out HB2.out)
        have hsz2 := HB2.out.size
        have hszw := hbe.out.size
        have E1 := Lib.hid e1
        have E2 := Lib.hid e2
        have E3 := Lib.hid e3
        clear e1 e2 e3
        go_wp2_with (at_builtin; refine stop_here ?_)
        rw [E1.out, E2.out, E3.out]
        refine go_on ?_
        refine wpList_app elem8 rfl _ _ rfl w.heap.size (.slice A' n' c') n' (u8s pre) rfl (own_below HO2.out ((Below.refl _ _).alloc (Nat.le_refl _) _)) _ 4 4 (u8s [UInt8.ofNat name.length, flags, UInt8.ofNat code.length, UInt8.ofNat (code.length / 256)]) rfl
          (Row.blk (S := fun _ => True) (t := 5) (cs := (u8s [UInt8.ofNat name.length, flags, UInt8.ofNat code.length, UInt8.ofNat (code.length / 256)]).toArray) (heap_alloc_new _ _) trivial (n := 4) rfl) rfl (one8 _) (n' + 4) rfl (u8s (pre ++ [UInt8.ofNat name.length, flags, UInt8.ofNat code.length, UInt8.ofNat (code.length / 256)])) (u8s_append _ _) (by omega) (by omega) (by simp; omega) ?_
        intro A3 c3 w3 ho3 hg3 hor3
        have hlt3 : ∀ j, (Value.slice A' n' c').ownBlock = some j → w.heap.size ≤ j := fun j hj => (HO2.out.lt j hj).1
        have HB3 := Lib.hid (show Below w.heap.size w w3 from below_grown ((below_then hbe.out hszw HB2.out).alloc (by omega) _) hg3.out (by simp; omega) hlt3)
        have hb3ne : ∀ j, (Value.slice A' n' c').ownBlock = some j → j < wo.heap.size := fun j hj => (own_lt hown.out j hj).1
        have hG3 : Blk w3 wo.heap.size 25 _ := (hg3.out.block wo.heap.size (by have := HG.out.lt; simp; omega) (fun e => absurd (hb3ne _ e.symm) (Nat.lt_irrefl _))).trans (HG.out.alloc _)
        have q0 := hG3.cellv (j := 0) rfl
        simp only [List.getElem_toArray, List.getElem_cons_zero] at q0
        have HG3 := Lib.hid hG3; clear hG3
        clear g0' g1' g2' hg3
        have hsz3 := HB3.out.size
        obtain ⟨A4, c4, w4, hr4, ho4, hg4⟩ := app_str w3 w.heap.size 27 (.slice A3 (n' + 4) c3) (n' + 4) _ ho3.out name (by have := Hrb.out; omega) hsz3
        rw [hsv] at hr4
        have hlt4 : ∀ j, (Value.slice A3 (n' + 4) c3).ownBlock = some j → w.heap.size ≤ j := fun j hj => (ho3.out.lt j hj).1
        have HO4 := Lib.hid ho4; clear ho4
        have HB4 := Lib.hid (show Below w.heap.size w w4 from below_grown HB3.out hg4 hsz3 hlt4)
        have Hr4 := Lib.hid hr4; clear hr4
        have hG4 : Blk w4 wo.heap.size 25 _ := (hg4.block wo.heap.size HG3.out.lt (fun e => by
          rcases hor3.out with h | h
          · exact absurd (hb3ne _ (h ▸ e.symm)) (Nat.lt_irrefl _)
          · rw [h] at e
            have hlt := HG.out.lt
            simp at e
            omega)).trans HG3.out
        have p2 := hG4.cellv (j := 2) rfl
        simp only [List.getElem_toArray, List.getElem_cons_zero, List.getElem_cons_succ] at p2
        clear hG4 hg4 hor3
        go_wp2_with (at_builtin; go_must (refine wpList_append_eq rfl _ _ 27 9 rfl _ _ rfl rfl Hr4.out ?_))
        obtain ⟨front, hfront⟩ : ∃ front, pre ++ [UInt8.ofNat name.length, flags, UInt8.ofNat code.length, UInt8.ofNat (code.length / 256)] ++ name = front := ⟨_, rfl⟩
        have HOf := Lib.hid (show w4.ownsRow w.heap.size 5 1 (.slice A4 (n' + 4 + name.length) c4) (n' + 4 + name.length) (u8s front) from by rw [← hfront, u8s_append]; exact HO4.out)
        have Hfront := Lib.hid hfront; clear hfront HO4
        go_loopw [4, 43] (fun out i wi => ∃ (j : Nat) (Ao : Option Addr) (co no : Nat), j ≤ code.length ∧ i = .int .i64 j ∧ out = .slice Ao no co ∧ Hid (no = n' + 4 + name.length + 4 * j) ∧
            Hid (wi.ownsRow w.heap.size 5 1 (.slice Ao no co) no (u8s (front ++ (code.take j).flatMap le4))) ∧ Hid (Below w.heap.size w wi))
          (fun _ i _ => code.length - (intOf i).toNat)
        case atStart => exact ⟨0, A4, c4, _, Nat.zero_le _, rfl, rfl, (show _ = _ from rfl), by rw [List.take_zero, List.flatMap_nil, List.append_nil]; exact HOf, HB4⟩
        case round =>
          obtain ⟨j, Ao, co, no, hj, rfl, rfl, hno, hoi, hbi⟩ := hrel
          by_cases hjl : j < code.length
          · have hxj : code[j]? = some code[j] := List.getElem?_eq_getElem hjl
            have Hri := Lib.hid (Hrc.out.keep (w' := wr) fun z hz hs => (hbi.out.block z hs.2).trans (hbe.out.block z hs.2).symm)
            obtain ⟨bcode, oc, rfl, _, hcellj⟩ := Hri.out.at_ (u32s_get hjl)
            have Hxj := Lib.hid hxj; clear hxj
            generalize code[j] = y at *
            have hszi := hbi.out.size
            have hrb := Hrb.out.2
            have Hle := Lib.hid (show u8s (front ++ (code.take (j + 1)).flatMap le4) = u8s (front ++ (code.take j).flatMap le4) ++ u8s (le4 y) from by
              rw [← u8s_append, List.append_assoc]
              congr 2
              rw [List.take_add_one, Hxj.out]
              simp)
            have Hrb2 := Lib.hid hrb; clear hrb
            go_wp2_with (at_builtin; go_must (refine wpList_app elem8 rfl _ _ rfl w.heap.size (.slice Ao no co) no (u8s (front ++ (code.take j).flatMap le4)) rfl (own_below hoi.out ((Below.refl _ _).alloc (Nat.le_refl _) _)) _ 4 4 (u8s (le4 y)) rfl (Row.blk (S := fun _ => True) (t := 5) (cs := (u8s (le4 y)).toArray) (heap_alloc_new _ _) trivial (n := 4) rfl) rfl (one8 _) (no + 4) rfl (u8s (front ++ (code.take (j + 1)).flatMap le4)) Hle.out (by have := Hrb.out; have := hno.out; omega) (by have := Hrb.out; have := hno.out; omega) (by simp; omega) ?_); intro A5 c5 w5 ho5 hg5 _; refine stop_here ?_)
            have hlt5 : ∀ z, (Value.slice Ao no co).ownBlock = some z → w.heap.size ≤ z := fun z hz => (hoi.out.lt z hz).1
            have HB5 := Lib.hid (show Below w.heap.size w w5 from below_grown (hbi.out.alloc hszi _) hg5.out (by simp; omega) hlt5)
            clear hg5
            have hcl : code.length ≤ 1000 := Hrb.out.2
            have hno' := Lib.hid (show no + 4 = n' + 4 + name.length + 4 * (j + 1) from by have := hno.out; omega)
            refine go_on ?_
            go_wp2_with fail
            go_roundw
            case rel => exact ⟨j + 1, A5, c5, no + 4, by omega, by go_num, rfl, hno', ho5, HB5⟩
            case measure => simp [intOf]; omega
          · obtain rfl : j = code.length := by omega
            rw [List.take_length] at hoi
            have hbytes : front ++ code.flatMap le4 = pre ++ (Wd.mk name flags code).bytes := by rw [← Hfront.out]; simp [Wd.bytes]
            rw [hbytes] at hoi
            have Hout := Lib.hid (show (l.take (k + 1)).flatMap Wd.bytes = pre ++ (Wd.mk name flags code).bytes from by rw [List.take_add_one, Hx.out, ← Hpre.out]; simp)
            have Hall := Lib.hid (show (l.take (k + 1)).all Wd.right = true from by rw [List.take_add_one, Hx.out, List.all_append, hright.out]; simp [hrw])
            have hbl : (Wd.mk name flags code).bytes.length = 4 + name.length + 4 * code.length := by
              simp only [Wd.bytes, List.length_append, flat4_length, List.length_cons, List.length_nil]; omega
            have Hno := Lib.hid (show no = (pre ++ (Wd.mk name flags code).bytes).length from by rw [List.length_append, hbl, ← hlen.out]; have := hno.out; omega)
            have hno2 : no ≤ (k + 1) * 4040 := by have := Hrb.out; have := hno.out; omega
            clear hbl hbytes
            go_wp2_with fail
            go_roundw
            case rel => exact ⟨k + 1, Ao, co, no, by omega, by go_num, rfl, hno2, by rw [Hout.out]; exact Hno, by rw [Hout.out]; exact hoi, Hall, hbi⟩
            case measure => simp [intOf]; omega
    · obtain rfl : k = l.length := by omega
      rw [List.take_length] at hlen hown hright
      have hres : encode l = some (l.flatMap Wd.bytes) := if_pos hright.out
      go_wp2_with fail
      go_ret2
      rw [hres]
      refine ⟨hbe.out, _, rfl, ?_⟩
      rw [← hlen.out]
      exact hown.out
end Go.Proofs.Ytmejngojpffcgaa
end

section
namespace Go.Ls
def sameW (x y : Wd) : Bool := x.name == y.name && x.flags == y.flags && x.code == y.code
end Go.Ls
namespace Go.Proofs.Ytmejngojpffcgaa
open Go.RowKit Go.Ls
theorem str_ne (a b : List UInt8) : ((⟨a.toArray⟩ : ByteArray) = ⟨b.toArray⟩) ↔ a = b :=
  ⟨fun e => by injection e with e2; simpa using e2, fun e => by rw [e]⟩
theorem neq_guard (a b : List UInt8) (p q : Operand) (W : World) : (eqGuard .neq 9 p q (str a) (str b)).run Try.prog W = .ok () W := by
  simp [str, eqGuard]
theorem neq_str (a b : List UInt8) (W : World) : (binOp .neq 9 (str a) (str b)).run Try.prog W = .ok (.bool (a != b)) W := by
  simp [str, binOp, go_sem]
  simp [Op.stringOp]
  cases h : a == b <;> simp [bne, h]
set_option maxRecDepth 100000 in
set_option maxHeartbeats 400000 in
theorem law_same {S S' : Nat → Prop} (v v' : Value) (x y : Wd) (w : World) (hx : WdAt S w v x) (hy : WdAt S' w v' y) (hn : y.code.length ≤ 140737488355328) :
    Calls Try.prog 48 #[v, v'] w fun e w' => e = .returned (.bool (sameW x y)) ∧ Below w.heap.size w w' := by
  obtain ⟨cv, rfl, A, c, rfl, hc, hr⟩ := hx
  obtain ⟨cv', rfl, A', c', rfl, hc', hr'⟩ := hy
  obtain ⟨name, flags, code⟩ := x
  obtain ⟨name', flags', code'⟩ := y
  simp only [wdV] at *
  have hg := fun p q W => neq_guard name name' p q W
  have hq := fun W => neq_str name name' W
  have hbe : Below w.heap.size w ((w.alloc (.cells #[str name, .int .u8 (b8 flags), .slice A code.length c] 25)).alloc (.cells #[str name', .int .u8 (b8 flags'), .slice A' code'.length c'] 25)) := ((Below.refl _ w).alloc (Nat.le_refl _) _).alloc (by simp) _
  have hb := (Blk.new w 25 #[str name, .int .u8 (b8 flags), .slice A code.length c]).alloc (.cells #[str name', .int .u8 (b8 flags'), .slice A' code'.length c'] 25)
  have hb' := Blk.new (w.alloc (.cells #[str name, .int .u8 (b8 flags), .slice A code.length c] 25)) 25 #[str name', .int .u8 (b8 flags'), .slice A' code'.length c']
  rw [World.size_alloc] at hb'
  generalize hs : str name = sv at *
  generalize hs' : str name' = sv' at *
  by_cases c1 : name = name'
  · have c1' : (name != name') = false := by simpa using c1
    rw [c1'] at hq
    by_cases c2 : flags = flags'
    · by_cases c3 : code.length = code'.length
      · have c3' : ((code.length : Int) != (code'.length : Int)) = false := by rw [c3]; simp
        have c2' : (b8 flags != b8 flags') = false := by rw [c2]; simp
        have hres : sameW ⟨name, flags, code⟩ ⟨name', flags', code'⟩ = (code == code') := by simp [sameW, c1, c2]
        rw [hres]
        have Hr := Lib.hid hr; clear hr
        have Hr' := Lib.hid hr'; clear hr'
        clear hres c1 hs hs'
        subst c2
        have hrl := hb.lt
        obtain ⟨w1, hw1⟩ : ∃ w1, ((w.alloc (.cells #[sv, .int .u8 (b8 flags), .slice A code.length c] 25)).alloc (.cells #[sv', .int .u8 (b8 flags), .slice A' code'.length c'] 25)) = w1 := ⟨_, rfl⟩
        have Hb : Hid (Blk w1 w.heap.size 25 #[sv, .int .u8 (b8 flags), .slice A code'.length c]) := Lib.hid (by rw [← hw1, show (Value.slice A code'.length c) = .slice A code.length c by rw [c3]]; exact hb)
        have Hb' : Hid (Blk w1 (w.heap.size + 1) 25 #[sv', .int .u8 (b8 flags), .slice A' code'.length c']) := Lib.hid (by rw [← hw1]; exact hb')
        have Hbe : Hid (Below w.heap.size w w1) := Lib.hid (by rw [← hw1]; exact hbe)
        have Hw1 := Lib.hid hw1
        clear hb hb' hbe hrl hw1
        have Hcl := Lib.hid c3
        go_enter Try.func48, Try.ntmps48
        go_wp2_with fail
        rw [c3] at Hw1
        rw [Hw1.out]
        clear c3 hq hg c2' c3'
        go_loopw [30] (fun i wr => ∃ (k m : Nat), k ≤ code'.length ∧ i = .int .i64 k ∧ Hid (wr = w1.drewN m) ∧ Hid (∀ j, j < k → code[j]? = code'[j]?)) (fun i _ => code'.length - (intOf i).toNat)
        case atStart => exact ⟨0, 0, Nat.zero_le _, rfl, rfl, fun j h => by omega⟩
        case round =>
          obtain ⟨k, m, hk, rfl, hwr, heq⟩ := hrel
          have hB : Blk wr w.heap.size 25 #[sv, .int .u8 (b8 flags), .slice A code'.length c] := by rw [hwr.out]; exact Hb.out.drewN m
          have hB' : Blk wr (w.heap.size + 1) 25 #[sv', .int .u8 (b8 flags), .slice A' code'.length c'] := by rw [hwr.out]; exact Hb'.out.drewN m
          have g2 := hB.cellv (j := 2) rfl
          have g2' := hB'.cellv (j := 2) rfl
          simp only [List.getElem_toArray, List.getElem_cons_zero, List.getElem_cons_succ] at g2 g2'
          have Hwb : Hid (Below w.heap.size w wr) := Lib.hid (by rw [hwr.out]; exact below_drewN Hbe.out m)
          by_cases hlt : k < code'.length
          · have hr1 := Hr.out.below Hwb.out
            have hr2 := Hr'.out.below Hwb.out
            have hcl := Hcl.out
            obtain ⟨b1, o1, rfl, _, hc1⟩ := hr1.at_ (u32s_get (show k < code.length by omega))
            obtain ⟨b2, o2, rfl, _, hc2⟩ := hr2.at_ (u32s_get hlt)
            have Hx := Lib.hid (List.getElem?_eq_getElem (show k < code.length by omega))
            have Hy := Lib.hid (List.getElem?_eq_getElem hlt)
            generalize code[k]'(by omega) = x at *
            generalize code'[k] = y at *
            clear hr1 hr2 hB hB'
            by_cases hxy : x = y
            · subst hxy
              clear hcl
              go_wp2_with fail
              go_quiet (fail)
              go_wp2_with fail
              go_roundw
              case rel => exact ⟨k + 1, m + nq, by omega, by go_num, Lib.hid (by rw [hwr.out]; exact World.drewN_drewN ..), fun j hj => by
                rcases Nat.lt_or_ge j k with h | h
                · exact heq.out j h
                · have : j = k := by omega
                  subst this
                  rw [Hx.out, Hy.out]⟩
              case measure => simp [intOf]; omega
            · have hne : (w32 x != w32 y) = true := by simp; exact fun e => hxy (w32_inj e)
              have Hxy := Lib.hid hxy; clear hxy
              clear hcl
              go_wp2_with fail
              go_quiet (fail)
              go_wp2_with fail
              go_ret
              refine ⟨ret_bool ?_, below_drewN Hwb.out _⟩
              symm
              rw [beq_eq_false_iff_ne]
              intro e
              rw [e] at Hx
              have := Hx.out.symm.trans Hy.out
              exact Hxy.out (by cases this; rfl)
          · obtain rfl : k = code'.length := by omega
            have hall : (code == code') = true := by
              rw [beq_iff_eq]
              apply List.ext_getElem?
              intro j
              by_cases hj : j < code'.length
              · exact heq.out j hj
              · rw [List.getElem?_eq_none (by have := Hcl.out; omega), List.getElem?_eq_none (by omega)]
            have Hall := Lib.hid hall; clear hall
            go_wp2_with fail
            go_ret
            exact ⟨ret_bool Hall.out.symm, Hwb.out⟩
      · have c3' : ((code.length : Int) != (code'.length : Int)) = true := by simp; omega
        have hres : sameW ⟨name, flags, code⟩ ⟨name', flags', code'⟩ = false := by
          have : (code == code') = false := by simp; intro e; rw [e] at c3; exact c3 rfl
          simp only [sameW, this, Bool.and_false]
        rw [hres]
        subst c2
        go_enter Try.func48, Try.ntmps48
        go_wp2_with fail
        go_ret
        exact ⟨rfl, hbe⟩
    · have hres : sameW ⟨name, flags, code⟩ ⟨name', flags', code'⟩ = false := by simp [sameW, c2]
      rw [hres]
      have c2' : (b8 flags != b8 flags') = true := by simp; exact fun e => c2 (b8_inj e)
      go_enter Try.func48, Try.ntmps48
      go_wp2_with fail
      go_ret
      exact ⟨rfl, hbe⟩
  · have hres : sameW ⟨name, flags, code⟩ ⟨name', flags', code'⟩ = false := by simp [sameW, c1]
    rw [hres]
    have c1' : (name != name') = true := by simpa using c1
    rw [c1'] at hq
    go_enter Try.func48, Try.ntmps48
    go_wp2_with fail
    go_ret
    exact ⟨rfl, hbe⟩
end Go.Proofs.Ytmejngojpffcgaa
end
