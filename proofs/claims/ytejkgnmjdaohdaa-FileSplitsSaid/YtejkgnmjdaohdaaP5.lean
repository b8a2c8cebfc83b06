/-
  Texts of this seat, laid together. No statement of the seat stands here.
-/
import Derived.Test.YtejkgnmjdaohdaaP4
/-
  Captures as plain data. No statement of the seat stands here.
-/
namespace Go.Proofs.Ytejkgnmjdaohdaa
open Go Go.An
set_option maxRecDepth 4000
set_option linter.unusedSimpArgs false
set_option linter.unusedVariables false

@[go_sem] theorem ld_byE {l : List UInt8} {i : Nat} {H : Hp} (h : i < l.length) : loadV Try.prog 5 H (.ipt (flatE byE l) (i * 1)) = some (.int .u8 (byE.at l i).toNat) := ld_cell0 g5 rfl h
@[go_sem] theorem ld_inE {l : List Int} {i : Nat} {H : Hp} (h : i < l.length) : loadV Try.prog 3 H (.ipt (flatE inE l) (i * 1)) = some (.int .i64 (inE.at l i)) := ld_cell0 g3 rfl h
@[go_sem] theorem ls9 {s : List UInt8} {H : Hp} (h : s.length ≤ 2 ^ 62) : lenV Try.prog 9 H (.str s) = some (.int .i64 s.length) := by simp [lenV, u9, h]
structure Pk where
  time : Int
  face : Int
  real : Int
  dataN : Bool
  data : List UInt8
  note : List UInt8
  deriving DecidableEq
def pkE : Enc Pk := ⟨fun p => [.int .i64 p.time, .int .i64 p.face, .int .i64 p.real, slV p.dataN byE p.data, .str p.note], 5, ⟨0, 0, 0, true, [], []⟩, fun _ => rfl, by decide, fun p => by simp only [immL, slV_imm]; rfl⟩
theorem pkE_f (p : Pk) : pkE.f p = [.int .i64 p.time, .int .i64 p.face, .int .i64 p.real, slV p.dataN byE p.data, .str p.note] := rfl
@[go_sem] theorem pkE_w : pkE.w = 5 := rfl
@[go_sem] theorem pkE_l (p : Pk) : (pkE.f p).length = 5 := rfl
@[go_sem] theorem pkE_t (p : Pk) : (pkE.f p).take 5 = pkE.f p := rfl
@[go_sem] theorem pkE_sa (p : Pk) : setAt [.int .i64 0, .int .i64 0, .int .i64 0, .nilslice, .str []] 0 (pkE.f p) = pkE.f p := rfl
@[go_sem] theorem pkE_pa (p : Pk) : partK (some true) (some 5) (pkE.f p) 0 = some (.agg (pkE.f p)) := rfl
@[go_sem] theorem pkE_0 (p : Pk) : (pkE.f p)[0]? = some (.int .i64 p.time) := rfl
@[go_sem] theorem pkE_1 (p : Pk) : (pkE.f p)[1]? = some (.int .i64 p.face) := rfl
@[go_sem] theorem pkE_2 (p : Pk) : (pkE.f p)[2]? = some (.int .i64 p.real) := rfl
@[go_sem] theorem pkE_3 (p : Pk) : (pkE.f p)[3]? = some (slV p.dataN byE p.data) := rfl
@[go_sem] theorem pkE_4 (p : Pk) : (pkE.f p)[4]? = some (.str p.note) := rfl
@[go_sem] theorem ld_pkE {l : List Pk} {i : Nat} {H : Hp} (h : i < l.length) : loadV Try.prog 56 H (.ipt (flatE pkE l) (i * 5)) = some (.agg (pkE.f (pkE.at l i))) := ld_agg g56 z56 rfl h
@[go_sem] theorem ld_pkE_0 {l : List Pk} {i : Nat} {H : Hp} (h : i < l.length) : loadV Try.prog 3 H (.ipt (flatE pkE l) (i * 5)) = some (.int .i64 (pkE.at l i).time) := ld_cell0 g3 rfl h
@[go_sem] theorem ld_pkE_1 {l : List Pk} {i : Nat} {H : Hp} (h : i < l.length) : loadV Try.prog 3 H (.ipt (flatE pkE l) (i * 5 + 1)) = some (.int .i64 (pkE.at l i).face) := ld_cell (j := 1) g3 rfl h (by omega)
@[go_sem] theorem ld_pkE_2 {l : List Pk} {i : Nat} {H : Hp} (h : i < l.length) : loadV Try.prog 3 H (.ipt (flatE pkE l) (i * 5 + 2)) = some (.int .i64 (pkE.at l i).real) := ld_cell (j := 2) g3 rfl h (by omega)
@[go_sem] theorem ld_pkE_3 {l : List Pk} {i : Nat} {H : Hp} (h : i < l.length) : loadV Try.prog 37 H (.ipt (flatE pkE l) (i * 5 + 3)) = some (slV (pkE.at l i).dataN byE (pkE.at l i).data) := ld_cell (j := 3) g37 rfl h (by omega)
@[go_sem] theorem ld_pkE_4 {l : List Pk} {i : Nat} {H : Hp} (h : i < l.length) : loadV Try.prog 9 H (.ipt (flatE pkE l) (i * 5 + 4)) = some (.str (pkE.at l i).note) := ld_cell (j := 4) g9 rfl h (by omega)
def PkOk (p : Pk) : Prop := Inx p.time ∧ Inx p.face ∧ Inx p.real ∧ p.data.length ≤ 140737488355328 ∧ p.note.length ≤ 140737488355328
theorem rd_pkE {m : Nat} {x : List V} (h : RdT Try.prog (m + 3) 56 x) : ∃ p : Pk, x = pkE.f p ∧ PkOk p := by
  obtain ⟨xss, rfl, k0⟩ := rd_parts (m := m + 2) (ts := [3, 3, 3, 37, 9]) (by kernel_rfl) h
  obtain ⟨x0, l0, rfl, h0, k1⟩ := rdTs_cons k0
  obtain ⟨x1, l1, rfl, h1, k2⟩ := rdTs_cons k1
  obtain ⟨x2, l2, rfl, h2, k3⟩ := rdTs_cons k2
  obtain ⟨x3, l3, rfl, h3, k4⟩ := rdTs_cons k3
  obtain ⟨x4, l4, rfl, h4, k5⟩ := rdTs_cons k4
  obtain rfl := rdTs_nil k5
  obtain ⟨a0, rfl, b0⟩ := rd_i64 (m := m + 1) u3 h0
  obtain ⟨a1, rfl, b1⟩ := rd_i64 (m := m + 1) u3 h1
  obtain ⟨a2, rfl, b2⟩ := rd_i64 (m := m + 1) u3 h2
  obtain ⟨c3, a3, rfl, _, b3, _⟩ := rd_bytes (m := m + 0) u37 u5 (by kernel_rfl) h3
  rw [show Try.prog.bytesOf 5 = 1 by kernel_rfl, Nat.mul_one] at b3
  obtain ⟨a4, rfl, b4⟩ := rd_str (m := m + 1) u9 h4
  exact ⟨⟨a0, a1, a2, c3, a3, a4⟩, rfl, ⟨b0, b1, b2, (Nat.le_trans b3 (by decide)), (Nat.le_trans b4 (by decide))⟩⟩
structure Fc where
  name : List UInt8
  link : Int
  snap : Int
  deriving DecidableEq
def fcE : Enc Fc := ⟨fun p => [.str p.name, .int .i64 p.link, .int .i64 p.snap], 3, ⟨[], 0, 0⟩, fun _ => rfl, by decide, fun p => by simp only [immL, slV_imm]; rfl⟩
theorem fcE_f (p : Fc) : fcE.f p = [.str p.name, .int .i64 p.link, .int .i64 p.snap] := rfl
@[go_sem] theorem fcE_w : fcE.w = 3 := rfl
@[go_sem] theorem fcE_l (p : Fc) : (fcE.f p).length = 3 := rfl
@[go_sem] theorem fcE_t (p : Fc) : (fcE.f p).take 3 = fcE.f p := rfl
@[go_sem] theorem fcE_sa (p : Fc) : setAt [.str [], .int .i64 0, .int .i64 0] 0 (fcE.f p) = fcE.f p := rfl
@[go_sem] theorem fcE_pa (p : Fc) : partK (some true) (some 3) (fcE.f p) 0 = some (.agg (fcE.f p)) := rfl
@[go_sem] theorem fcE_0 (p : Fc) : (fcE.f p)[0]? = some (.str p.name) := rfl
@[go_sem] theorem fcE_1 (p : Fc) : (fcE.f p)[1]? = some (.int .i64 p.link) := rfl
@[go_sem] theorem fcE_2 (p : Fc) : (fcE.f p)[2]? = some (.int .i64 p.snap) := rfl
@[go_sem] theorem ld_fcE {l : List Fc} {i : Nat} {H : Hp} (h : i < l.length) : loadV Try.prog 82 H (.ipt (flatE fcE l) (i * 3)) = some (.agg (fcE.f (fcE.at l i))) := ld_agg g82 z82 rfl h
@[go_sem] theorem ld_fcE_0 {l : List Fc} {i : Nat} {H : Hp} (h : i < l.length) : loadV Try.prog 9 H (.ipt (flatE fcE l) (i * 3)) = some (.str (fcE.at l i).name) := ld_cell0 g9 rfl h
@[go_sem] theorem ld_fcE_1 {l : List Fc} {i : Nat} {H : Hp} (h : i < l.length) : loadV Try.prog 3 H (.ipt (flatE fcE l) (i * 3 + 1)) = some (.int .i64 (fcE.at l i).link) := ld_cell (j := 1) g3 rfl h (by omega)
@[go_sem] theorem ld_fcE_2 {l : List Fc} {i : Nat} {H : Hp} (h : i < l.length) : loadV Try.prog 3 H (.ipt (flatE fcE l) (i * 3 + 2)) = some (.int .i64 (fcE.at l i).snap) := ld_cell (j := 2) g3 rfl h (by omega)
def FcOk (p : Fc) : Prop := p.name.length ≤ 140737488355328 ∧ Inx p.link ∧ Inx p.snap
theorem rd_fcE {m : Nat} {x : List V} (h : RdT Try.prog (m + 2) 82 x) : ∃ p : Fc, x = fcE.f p ∧ FcOk p := by
  obtain ⟨xss, rfl, k0⟩ := rd_parts (m := m + 1) (ts := [9, 3, 3]) (by kernel_rfl) h
  obtain ⟨x0, l0, rfl, h0, k1⟩ := rdTs_cons k0
  obtain ⟨x1, l1, rfl, h1, k2⟩ := rdTs_cons k1
  obtain ⟨x2, l2, rfl, h2, k3⟩ := rdTs_cons k2
  obtain rfl := rdTs_nil k3
  obtain ⟨a0, rfl, b0⟩ := rd_str (m := m + 0) u9 h0
  obtain ⟨a1, rfl, b1⟩ := rd_i64 (m := m + 0) u3 h1
  obtain ⟨a2, rfl, b2⟩ := rd_i64 (m := m + 0) u3 h2
  exact ⟨⟨a0, a1, a2⟩, rfl, ⟨(Nat.le_trans b0 (by decide)), b1, b2⟩⟩
structure Nm where
  addrN : Bool
  addr : List UInt8
  text : List UInt8
  deriving DecidableEq
def nmE : Enc Nm := ⟨fun p => [slV p.addrN byE p.addr, .str p.text], 2, ⟨true, [], []⟩, fun _ => rfl, by decide, fun p => by simp only [immL, slV_imm]; rfl⟩
theorem nmE_f (p : Nm) : nmE.f p = [slV p.addrN byE p.addr, .str p.text] := rfl
@[go_sem] theorem nmE_w : nmE.w = 2 := rfl
@[go_sem] theorem nmE_l (p : Nm) : (nmE.f p).length = 2 := rfl
@[go_sem] theorem nmE_t (p : Nm) : (nmE.f p).take 2 = nmE.f p := rfl
@[go_sem] theorem nmE_sa (p : Nm) : setAt [.nilslice, .str []] 0 (nmE.f p) = nmE.f p := rfl
@[go_sem] theorem nmE_pa (p : Nm) : partK (some true) (some 2) (nmE.f p) 0 = some (.agg (nmE.f p)) := rfl
@[go_sem] theorem nmE_0 (p : Nm) : (nmE.f p)[0]? = some (slV p.addrN byE p.addr) := rfl
@[go_sem] theorem nmE_1 (p : Nm) : (nmE.f p)[1]? = some (.str p.text) := rfl
@[go_sem] theorem ld_nmE {l : List Nm} {i : Nat} {H : Hp} (h : i < l.length) : loadV Try.prog 97 H (.ipt (flatE nmE l) (i * 2)) = some (.agg (nmE.f (nmE.at l i))) := ld_agg g97 z97 rfl h
@[go_sem] theorem ld_nmE_0 {l : List Nm} {i : Nat} {H : Hp} (h : i < l.length) : loadV Try.prog 37 H (.ipt (flatE nmE l) (i * 2)) = some (slV (nmE.at l i).addrN byE (nmE.at l i).addr) := ld_cell0 g37 rfl h
@[go_sem] theorem ld_nmE_1 {l : List Nm} {i : Nat} {H : Hp} (h : i < l.length) : loadV Try.prog 9 H (.ipt (flatE nmE l) (i * 2 + 1)) = some (.str (nmE.at l i).text) := ld_cell (j := 1) g9 rfl h (by omega)
def NmOk (p : Nm) : Prop := p.addr.length ≤ 140737488355328 ∧ p.text.length ≤ 140737488355328
theorem rd_nmE {m : Nat} {x : List V} (h : RdT Try.prog (m + 3) 97 x) : ∃ p : Nm, x = nmE.f p ∧ NmOk p := by
  obtain ⟨xss, rfl, k0⟩ := rd_parts (m := m + 2) (ts := [37, 9]) (by kernel_rfl) h
  obtain ⟨x0, l0, rfl, h0, k1⟩ := rdTs_cons k0
  obtain ⟨x1, l1, rfl, h1, k2⟩ := rdTs_cons k1
  obtain rfl := rdTs_nil k2
  obtain ⟨c0, a0, rfl, _, b0, _⟩ := rd_bytes (m := m + 0) u37 u5 (by kernel_rfl) h0
  rw [show Try.prog.bytesOf 5 = 1 by kernel_rfl, Nat.mul_one] at b0
  obtain ⟨a1, rfl, b1⟩ := rd_str (m := m + 1) u9 h1
  exact ⟨⟨c0, a0, a1⟩, rfl, ⟨(Nat.le_trans b0 (by decide)), (Nat.le_trans b1 (by decide))⟩⟩
structure Sc where
  label : List UInt8
  keyN : Bool
  key : List UInt8
  deriving DecidableEq
def scE : Enc Sc := ⟨fun p => [.str p.label, slV p.keyN byE p.key], 2, ⟨[], true, []⟩, fun _ => rfl, by decide, fun p => by simp only [immL, slV_imm]; rfl⟩
theorem scE_f (p : Sc) : scE.f p = [.str p.label, slV p.keyN byE p.key] := rfl
@[go_sem] theorem scE_w : scE.w = 2 := rfl
@[go_sem] theorem scE_l (p : Sc) : (scE.f p).length = 2 := rfl
@[go_sem] theorem scE_t (p : Sc) : (scE.f p).take 2 = scE.f p := rfl
@[go_sem] theorem scE_sa (p : Sc) : setAt [.str [], .nilslice] 0 (scE.f p) = scE.f p := rfl
@[go_sem] theorem scE_pa (p : Sc) : partK (some true) (some 2) (scE.f p) 0 = some (.agg (scE.f p)) := rfl
@[go_sem] theorem scE_0 (p : Sc) : (scE.f p)[0]? = some (.str p.label) := rfl
@[go_sem] theorem scE_1 (p : Sc) : (scE.f p)[1]? = some (slV p.keyN byE p.key) := rfl
@[go_sem] theorem ld_scE {l : List Sc} {i : Nat} {H : Hp} (h : i < l.length) : loadV Try.prog 100 H (.ipt (flatE scE l) (i * 2)) = some (.agg (scE.f (scE.at l i))) := ld_agg g100 z100 rfl h
@[go_sem] theorem ld_scE_0 {l : List Sc} {i : Nat} {H : Hp} (h : i < l.length) : loadV Try.prog 9 H (.ipt (flatE scE l) (i * 2)) = some (.str (scE.at l i).label) := ld_cell0 g9 rfl h
@[go_sem] theorem ld_scE_1 {l : List Sc} {i : Nat} {H : Hp} (h : i < l.length) : loadV Try.prog 37 H (.ipt (flatE scE l) (i * 2 + 1)) = some (slV (scE.at l i).keyN byE (scE.at l i).key) := ld_cell (j := 1) g37 rfl h (by omega)
def ScOk (p : Sc) : Prop := p.label.length ≤ 140737488355328 ∧ p.key.length ≤ 140737488355328
theorem rd_scE {m : Nat} {x : List V} (h : RdT Try.prog (m + 3) 100 x) : ∃ p : Sc, x = scE.f p ∧ ScOk p := by
  obtain ⟨xss, rfl, k0⟩ := rd_parts (m := m + 2) (ts := [9, 37]) (by kernel_rfl) h
  obtain ⟨x0, l0, rfl, h0, k1⟩ := rdTs_cons k0
  obtain ⟨x1, l1, rfl, h1, k2⟩ := rdTs_cons k1
  obtain rfl := rdTs_nil k2
  obtain ⟨a0, rfl, b0⟩ := rd_str (m := m + 1) u9 h0
  obtain ⟨c1, a1, rfl, _, b1, _⟩ := rd_bytes (m := m + 0) u37 u5 (by kernel_rfl) h1
  rw [show Try.prog.bytesOf 5 = 1 by kernel_rfl, Nat.mul_one] at b1
  exact ⟨⟨a0, c1, a1⟩, rfl, ⟨(Nat.le_trans b0 (by decide)), (Nat.le_trans b1 (by decide))⟩⟩
structure Cp where
  note : List UInt8
  facesN : Bool
  faces : List Fc
  namesN : Bool
  names : List Nm
  secretsN : Bool
  secrets : List Sc
  packetsN : Bool
  packets : List Pk
  deriving DecidableEq
def cpE : Enc Cp := ⟨fun p => [.str p.note, slV p.facesN fcE p.faces, slV p.namesN nmE p.names, slV p.secretsN scE p.secrets, slV p.packetsN pkE p.packets], 5, ⟨[], true, [], true, [], true, [], true, []⟩, fun _ => rfl, by decide, fun p => by simp only [immL, slV_imm]; rfl⟩
theorem cpE_f (p : Cp) : cpE.f p = [.str p.note, slV p.facesN fcE p.faces, slV p.namesN nmE p.names, slV p.secretsN scE p.secrets, slV p.packetsN pkE p.packets] := rfl
@[go_sem] theorem cpE_w : cpE.w = 5 := rfl
@[go_sem] theorem cpE_l (p : Cp) : (cpE.f p).length = 5 := rfl
@[go_sem] theorem cpE_t (p : Cp) : (cpE.f p).take 5 = cpE.f p := rfl
@[go_sem] theorem cpE_sa (p : Cp) : setAt [.str [], .nilslice, .nilslice, .nilslice, .nilslice] 0 (cpE.f p) = cpE.f p := rfl
@[go_sem] theorem cpE_pa (p : Cp) : partK (some true) (some 5) (cpE.f p) 0 = some (.agg (cpE.f p)) := rfl
@[go_sem] theorem cpE_0 (p : Cp) : (cpE.f p)[0]? = some (.str p.note) := rfl
@[go_sem] theorem cpE_1 (p : Cp) : (cpE.f p)[1]? = some (slV p.facesN fcE p.faces) := rfl
@[go_sem] theorem cpE_2 (p : Cp) : (cpE.f p)[2]? = some (slV p.namesN nmE p.names) := rfl
@[go_sem] theorem cpE_3 (p : Cp) : (cpE.f p)[3]? = some (slV p.secretsN scE p.secrets) := rfl
@[go_sem] theorem cpE_4 (p : Cp) : (cpE.f p)[4]? = some (slV p.packetsN pkE p.packets) := rfl
@[go_sem] theorem ld_cpE {l : List Cp} {i : Nat} {H : Hp} (h : i < l.length) : loadV Try.prog 31 H (.ipt (flatE cpE l) (i * 5)) = some (.agg (cpE.f (cpE.at l i))) := ld_agg g31 z31 rfl h
@[go_sem] theorem ld_cpE_0 {l : List Cp} {i : Nat} {H : Hp} (h : i < l.length) : loadV Try.prog 9 H (.ipt (flatE cpE l) (i * 5)) = some (.str (cpE.at l i).note) := ld_cell0 g9 rfl h
@[go_sem] theorem ld_cpE_1 {l : List Cp} {i : Nat} {H : Hp} (h : i < l.length) : loadV Try.prog 26 H (.ipt (flatE cpE l) (i * 5 + 1)) = some (slV (cpE.at l i).facesN fcE (cpE.at l i).faces) := ld_cell (j := 1) g26 rfl h (by omega)
@[go_sem] theorem ld_cpE_2 {l : List Cp} {i : Nat} {H : Hp} (h : i < l.length) : loadV Try.prog 27 H (.ipt (flatE cpE l) (i * 5 + 2)) = some (slV (cpE.at l i).namesN nmE (cpE.at l i).names) := ld_cell (j := 2) g27 rfl h (by omega)
@[go_sem] theorem ld_cpE_3 {l : List Cp} {i : Nat} {H : Hp} (h : i < l.length) : loadV Try.prog 28 H (.ipt (flatE cpE l) (i * 5 + 3)) = some (slV (cpE.at l i).secretsN scE (cpE.at l i).secrets) := ld_cell (j := 3) g28 rfl h (by omega)
@[go_sem] theorem ld_cpE_4 {l : List Cp} {i : Nat} {H : Hp} (h : i < l.length) : loadV Try.prog 29 H (.ipt (flatE cpE l) (i * 5 + 4)) = some (slV (cpE.at l i).packetsN pkE (cpE.at l i).packets) := ld_cell (j := 4) g29 rfl h (by omega)
def CpOk (p : Cp) : Prop := p.note.length ≤ 140737488355328 ∧ (∀ x ∈ p.faces, FcOk x) ∧ p.faces.length ≤ 140737488355328 ∧ (∀ x ∈ p.names, NmOk x) ∧ p.names.length ≤ 140737488355328 ∧ (∀ x ∈ p.secrets, ScOk x) ∧ p.secrets.length ≤ 140737488355328 ∧ (∀ x ∈ p.packets, PkOk x) ∧ p.packets.length ≤ 140737488355328
theorem rd_cpE {m : Nat} {x : List V} (h : RdT Try.prog (m + 5) 31 x) : ∃ p : Cp, x = cpE.f p ∧ CpOk p := by
  obtain ⟨xss, rfl, k0⟩ := rd_parts (m := m + 4) (ts := [9, 26, 27, 28, 29]) (by kernel_rfl) h
  obtain ⟨x0, l0, rfl, h0, k1⟩ := rdTs_cons k0
  obtain ⟨x1, l1, rfl, h1, k2⟩ := rdTs_cons k1
  obtain ⟨x2, l2, rfl, h2, k3⟩ := rdTs_cons k2
  obtain ⟨x3, l3, rfl, h3, k4⟩ := rdTs_cons k3
  obtain ⟨x4, l4, rfl, h4, k5⟩ := rdTs_cons k4
  obtain rfl := rdTs_nil k5
  obtain ⟨a0, rfl, b0⟩ := rd_str (m := m + 3) u9 h0
  obtain ⟨c1, a1, rfl, d1, b1, _⟩ := rd_list (m := m + 3) (E := fcE) (Ok := FcOk) u26 (by kernel_rfl) (fun x hx => rd_fcE (m := m + 3 - 2) (by simpa using hx)) h1
  obtain ⟨c2, a2, rfl, d2, b2, _⟩ := rd_list (m := m + 3) (E := nmE) (Ok := NmOk) u27 (by kernel_rfl) (fun x hx => rd_nmE (m := m + 3 - 3) (by simpa using hx)) h2
  obtain ⟨c3, a3, rfl, d3, b3, _⟩ := rd_list (m := m + 3) (E := scE) (Ok := ScOk) u28 (by kernel_rfl) (fun x hx => rd_scE (m := m + 3 - 3) (by simpa using hx)) h3
  obtain ⟨c4, a4, rfl, d4, b4, _⟩ := rd_list (m := m + 3) (E := pkE) (Ok := PkOk) u29 (by kernel_rfl) (fun x hx => rd_pkE (m := m + 3 - 3) (by simpa using hx)) h4
  exact ⟨⟨a0, c1, a1, c2, a2, c3, a3, c4, a4⟩, rfl, ⟨(Nat.le_trans b0 (by decide)), d1, (Nat.le_trans (Nat.le_mul_of_pos_right _ (by decide +kernel : 0 < Try.prog.bytesOf 82)) (Nat.le_trans b1 (by decide))), d2, (Nat.le_trans (Nat.le_mul_of_pos_right _ (by decide +kernel : 0 < Try.prog.bytesOf 97)) (Nat.le_trans b2 (by decide))), d3, (Nat.le_trans (Nat.le_mul_of_pos_right _ (by decide +kernel : 0 < Try.prog.bytesOf 100)) (Nat.le_trans b3 (by decide))), d4, (Nat.le_trans (Nat.le_mul_of_pos_right _ (by decide +kernel : 0 < Try.prog.bytesOf 56)) (Nat.le_trans b4 (by decide)))⟩⟩
theorem arg_cap {m : Nat} {x : V} (h : ArgT Try.prog (m + 5) 31 x) : ∃ c : Cp, x = .agg (cpE.f c) ∧ CpOk c := by
  obtain ⟨xs, rfl, h2⟩ := arg_agg (by kernel_rfl) h
  obtain ⟨c, rfl, hc⟩ := rd_cpE h2
  exact ⟨c, rfl, hc⟩
end Go.Proofs.Ytejkgnmjdaohdaa
/-
  Whether a capture is right, for the program; walked. No statement of the seat stands here.
-/
namespace Go.Proofs.Ytejkgnmjdaohdaa
open Go Go.An
set_option maxRecDepth 4000
set_option linter.unusedSimpArgs false
set_option linter.unusedVariables false

theorem ldB {l : List UInt8} {i : Nat} {H : Hp} (h : i < l.length) : loadV Try.prog 5 H (.ipt (flatE byE l) (i * 1)) = some (.int .u8 (byE.at l i).toNat) := ld_cell0 g5 rfl h
theorem ldF {l : List Fc} {i : Nat} {H : Hp} (h : i < l.length) : loadV Try.prog 82 H (.ipt (flatE fcE l) (i * 3)) = some (.agg (fcE.f (fcE.at l i))) := ld_agg g82 z82 rfl h
theorem ldF2 {l : List Fc} {i : Nat} {H : Hp} (h : i < l.length) : loadV Try.prog 3 H (.ipt (flatE fcE l) (i * 3 + 2)) = some (.int .i64 (fcE.at l i).snap) := ld_cell (j := 2) g3 rfl h (by omega)
theorem ldN {l : List Nm} {i : Nat} {H : Hp} (h : i < l.length) : loadV Try.prog 97 H (.ipt (flatE nmE l) (i * 2)) = some (.agg (nmE.f (nmE.at l i))) := ld_agg g97 z97 rfl h
theorem ldS {l : List Sc} {i : Nat} {H : Hp} (h : i < l.length) : loadV Try.prog 100 H (.ipt (flatE scE l) (i * 2)) = some (.agg (scE.f (scE.at l i))) := ld_agg g100 z100 rfl h
theorem ldP {l : List Pk} {i : Nat} {H : Hp} (h : i < l.length) : loadV Try.prog 56 H (.ipt (flatE pkE l) (i * 5)) = some (.agg (pkE.f (pkE.at l i))) := ld_agg g56 z56 rfl h
theorem ldR {H : Hp} {id g off : Nat} {t : TypeId} : loadV Try.prog t H (.ptr id g off) = (getRow H id g).bind fun r => partV Try.prog t r.1 off := loadV_ptr t id g off

theorem fn173L {b : Bool} {l : List UInt8} {H : Hp} (hlen : l.length < 2 ^ 62) (p : UInt8 → Bool) (f : Nat) (ca cb : List V) (hk : ∀ v, demK f v = v.dem) (hf : ∀ x ∈ l, callL Try.prog pr f (ca ++ [.int .u8 x.toNat] ++ cb) H = some (.bool (p x), H)) : callL Try.prog pr 173 [slV b byE l, .fn f ca cb] H = some (.int .i64 (findI p l 0), H) := by
  refine run173 (Nat.le_of_ble_eq_true rfl) ?_
  simp (disch := first | rfl | omega | exact lt_new _ | assumption | decide | (simp [tk_here, tk_app, tk_0, tk_S, gr_here, gr_app, gr_0, gr_S] <;> omega) | fail) only [r173_0, r173_1, r173_2, r173_3, r173_4, r173_5, r173_6, r173_8, c173, rs173, gc173, go_sem, ↓reduceIte, Nat.reduceLT, Nat.reduceEqDiff, Nat.reduceAdd, Nat.reduceMul, Nat.reduceSub, Int.reduceAdd, Int.reduceSub, Nat.reduceLeDiff, Int.reduceLT, Int.reduceLE, Int.reduceEq, Int.reduceNeg, Int.reduceToNat]
  refine Wp_loop (fun m T D H' => ∃ i, m = l.length - i ∧ i ≤ l.length ∧ D = [] ∧ H' = H ∧ get T 0 = slV b byE l ∧ get T 1 = .fn f ca cb ∧ get T 7 = .int .i64 l.length ∧ get T 8 = .int .i64 i ∧ findI p l 0 = findI p (l.drop i) i) ?_ l.length _ _ _ ?_
  · rintro m T D H' ⟨i, rfl, hi, rfl, rfl, h0, h1, h7, h8, hp⟩
    by_cases hlt : i < l.length
    · have hlt' : (i : Int) < l.length := by omega
      have hpi := findI_drop p (byE.at_some hlt) i
      have hfi := hf _ (byE.at_mem hlt)
      have hld := fun H => @ld_cell0 _ Try.prog H _ byE l 5 1 i g5 rfl hlt
      simp (disch := first | rfl | omega | exact lt_new _ | assumption | decide | (simp [tk_here, tk_app, tk_0, tk_S, gr_here, gr_app, gr_0, gr_S] <;> omega) | fail) only [r173_0, r173_1, r173_2, r173_3, r173_4, r173_5, r173_6, l173_7, r173_8, c173, rs173, gc173, go_sem, ↓reduceIte, Nat.reduceLT, Nat.reduceEqDiff, Nat.reduceAdd, Nat.reduceMul, Nat.reduceSub, Int.reduceAdd, Int.reduceSub, Nat.reduceLeDiff, Int.reduceLT, Int.reduceLE, Int.reduceEq, Int.reduceNeg, Int.reduceToNat, h0, h1, h7, h8, hld, hk, hfi, hlt', decide_true]
      refine brQ_bool (fun hy => ?_) (fun hy => ?_)
      · rw [if_pos hy] at hpi
        simp (disch := first | rfl | omega | exact lt_new _ | assumption | decide | (simp [tk_here, tk_app, tk_0, tk_S, gr_here, gr_app, gr_0, gr_S] <;> omega) | fail) only [r173_0, r173_1, r173_2, r173_3, r173_4, r173_5, r173_6, l173_7, r173_8, c173, rs173, gc173, go_sem, ↓reduceIte, Nat.reduceLT, Nat.reduceEqDiff, Nat.reduceAdd, Nat.reduceMul, Nat.reduceSub, Int.reduceAdd, Int.reduceSub, Nat.reduceLeDiff, Int.reduceLT, Int.reduceLE, Int.reduceEq, Int.reduceNeg, Int.reduceToNat, h0, h1, h7, h8]
        refine finQ_same ?_
        simp (disch := first | rfl | omega | exact lt_new _ | assumption | decide | (simp [tk_here, tk_app, tk_0, tk_S, gr_here, gr_app, gr_0, gr_S] <;> omega) | fail) only [go_sem, ↓reduceIte, Nat.reduceLT, Nat.reduceEqDiff, Nat.reduceAdd, Nat.reduceMul, Nat.reduceSub, Int.reduceAdd, Int.reduceSub, Nat.reduceLeDiff, Int.reduceLT, Int.reduceLE, Int.reduceEq, Int.reduceNeg, Int.reduceToNat, hp, hpi]
      · rw [if_neg (by simp [hy])] at hpi
        simp (disch := first | rfl | omega | exact lt_new _ | assumption | decide | (simp [tk_here, tk_app, tk_0, tk_S, gr_here, gr_app, gr_0, gr_S] <;> omega) | fail) only [r173_0, r173_1, r173_2, r173_3, r173_4, r173_5, r173_6, l173_7, r173_8, c173, rs173, gc173, go_sem, ↓reduceIte, Nat.reduceLT, Nat.reduceEqDiff, Nat.reduceAdd, Nat.reduceMul, Nat.reduceSub, Int.reduceAdd, Int.reduceSub, Nat.reduceLeDiff, Int.reduceLT, Int.reduceLE, Int.reduceEq, Int.reduceNeg, Int.reduceToNat, h0, h1, h7, h8]
        exact ⟨_, by omega, i + 1, rfl, hlt, rfl, by rw [hp, hpi]; rfl⟩
    · obtain rfl : i = l.length := by omega
      simp (disch := first | rfl | omega | exact lt_new _ | assumption | decide | (simp [tk_here, tk_app, tk_0, tk_S, gr_here, gr_app, gr_0, gr_S] <;> omega) | fail) only [r173_0, r173_1, r173_2, r173_3, r173_4, r173_5, r173_6, l173_7, r173_8, c173, rs173, gc173, go_sem, ↓reduceIte, Nat.reduceLT, Nat.reduceEqDiff, Nat.reduceAdd, Nat.reduceMul, Nat.reduceSub, Int.reduceAdd, Int.reduceSub, Nat.reduceLeDiff, Int.reduceLT, Int.reduceLE, Int.reduceEq, Int.reduceNeg, Int.reduceToNat, h0, h1, h7, h8, Int.lt_irrefl, decide_false]
      refine finQ_same ?_
      rw [hp, List.drop_length]
      simp (disch := first | rfl | omega | exact lt_new _ | assumption | decide | (simp [tk_here, tk_app, tk_0, tk_S, gr_here, gr_app, gr_0, gr_S] <;> omega) | fail) only [go_sem, ↓reduceIte, Nat.reduceLT, Nat.reduceEqDiff, Nat.reduceAdd, Nat.reduceMul, Nat.reduceSub, Int.reduceAdd, Int.reduceSub, Nat.reduceLeDiff, Int.reduceLT, Int.reduceLE, Int.reduceEq, Int.reduceNeg, Int.reduceToNat, findI]
  · exact ⟨0, by simp [go_sem]⟩

theorem fn147L {b : Bool} {l : List UInt8} {H : Hp} (hlen : l.length < 2 ^ 62) (p : UInt8 → Bool) (f : Nat) (ca cb : List V) (hk : ∀ v, demK f v = v.dem) (hf : ∀ x ∈ l, callL Try.prog pr f (ca ++ [.int .u8 x.toNat] ++ cb) H = some (.bool (p x), H)) : callL Try.prog pr 147 [slV b byE l, .fn f ca cb] H = some (.bool (l.any p), H) := by
  refine run147 (Nat.le_of_ble_eq_true rfl) ?_
  simp (disch := first | rfl | omega | exact lt_new _ | assumption | decide | (simp [tk_here, tk_app, tk_0, tk_S, gr_here, gr_app, gr_0, gr_S] <;> omega) | fail) only [r147_0, r147_1, c147, rs147, gc147, go_sem, ↓reduceIte, Nat.reduceLT, Nat.reduceEqDiff, Nat.reduceAdd, Nat.reduceMul, Nat.reduceSub, Int.reduceAdd, Int.reduceSub, Nat.reduceLeDiff, Int.reduceLT, Int.reduceLE, Int.reduceEq, Int.reduceNeg, Int.reduceToNat, fn173L hlen p f ca cb hk hf]
  refine finQ_same ?_
  simp (disch := first | rfl | omega | exact lt_new _ | assumption | decide | (simp [tk_here, tk_app, tk_0, tk_S, gr_here, gr_app, gr_0, gr_S] <;> omega) | fail) only [go_sem, ↓reduceIte, Nat.reduceLT, Nat.reduceEqDiff, Nat.reduceAdd, Nat.reduceMul, Nat.reduceSub, Int.reduceAdd, Int.reduceSub, Nat.reduceLeDiff, Int.reduceLT, Int.reduceLE, Int.reduceEq, Int.reduceNeg, Int.reduceToNat, findI_any p l 0 (by omega)]

def badC (c : UInt8) : Bool := decide (c.toNat < 32) || decide (126 < c.toNat)
def txB (s : List UInt8) : Bool := decide (s.length ≤ 200) && !s.any badC
def fcB (f : Fc) : Bool := txB f.name && decide (0 ≤ f.link) && decide (f.link ≤ 65535) && decide (0 ≤ f.snap) && decide (f.snap ≤ 400)
def nmB (n : Nm) : Bool := txB n.text && decide (1 ≤ n.addr.length) && decide (n.addr.length ≤ 16)
def scB (s : Sc) : Bool := txB s.label && !decide (s.label = []) && decide (1 ≤ s.key.length) && decide (s.key.length ≤ 200)
def pkB (p : Pk) (snap : Int) : Bool := decide (0 ≤ p.time) && decide (p.time ≤ 1000000000000000) && decide ((p.data.length : Int) ≤ 400) && txB p.note && (decide (snap = 0) || decide ((p.data.length : Int) ≤ snap)) && decide ((p.data.length : Int) ≤ p.real) && decide (p.real ≤ 1000000)
def pfB (p : Pk) (fs : List Fc) : Bool := decide (0 ≤ p.face) && decide (p.face < fs.length) && pkB p (fcE.at fs p.face.toNat).snap
theorem fn148 (c : UInt8) (H : Hp) : callL Try.prog pr 148 [.int .u8 c.toNat] H = some (.bool (badC c), H) := by
  refine run148 (Nat.le_of_ble_eq_true rfl) ?_
  unfold badC
  have e1 : ((c.toNat : Int) < 32) = (c.toNat < 32) := by simp; omega
  have e2 : ((126 : Int) < c.toNat) = (126 < c.toNat) := by simp; omega
  simp (disch := first | rfl | omega | exact lt_new _ | assumption | decide | (simp [tk_here, tk_app, tk_0, tk_S, gr_here, gr_app, gr_0, gr_S] <;> omega) | fail) only [r148_0, r148_1, c148, rs148, gc148, e1, e2, go_sem, ↓reduceIte, Nat.reduceLT, Nat.reduceEqDiff, Nat.reduceAdd, Nat.reduceMul, Nat.reduceSub, Int.reduceAdd, Int.reduceSub, Nat.reduceLeDiff, Int.reduceLT, Int.reduceLE, Int.reduceEq, Int.reduceNeg, Int.reduceToNat]
  repeat' ((first | refine guardB_dec (fun hy => ?_) (fun hy => ?_) | refine guardB_bool (fun hy => ?_) (fun hy => ?_) | refine guardQ_ite (fun hy => ?_) (fun hy => ?_) | refine brQ_dec (fun hy => ?_) (fun hy => ?_) | refine brQ_bool (fun hy => ?_) (fun hy => ?_)) <;> (try simp only [Bool.not_eq_true', Bool.not_eq_false', Bool.and_eq_true, Bool.or_eq_false_iff, decide_eq_true_eq, decide_eq_false_iff_not] at hy) <;> simp (disch := first | rfl | omega | exact lt_new _ | assumption | decide | (simp [tk_here, tk_app, tk_0, tk_S, gr_here, gr_app, gr_0, gr_S] <;> omega) | fail) only [r148_0, r148_1, c148, rs148, gc148, e1, e2, go_sem, ↓reduceIte, Nat.reduceLT, Nat.reduceEqDiff, Nat.reduceAdd, Nat.reduceMul, Nat.reduceSub, Int.reduceAdd, Int.reduceSub, Nat.reduceLeDiff, Int.reduceLT, Int.reduceLE, Int.reduceEq, Int.reduceNeg, Int.reduceToNat, hy])
  all_goals (try ((first | refine finQ_same ?_ | refine finQ_app ?_ | (rw [List.append_assoc]; refine finQ_app ?_)) <;> simp (disch := first | rfl | omega | exact lt_new _ | assumption | decide | (simp [tk_here, tk_app, tk_0, tk_S, gr_here, gr_app, gr_0, gr_S] <;> omega) | fail) only [go_sem, ↓reduceIte, Nat.reduceLT, Nat.reduceEqDiff, Nat.reduceAdd, Nat.reduceMul, Nat.reduceSub, Int.reduceAdd, Int.reduceSub, Nat.reduceLeDiff, Int.reduceLT, Int.reduceLE, Int.reduceEq, Int.reduceNeg, Int.reduceToNat, List.append_assoc, List.cons_append, List.nil_append, *]))
  all_goals (try first | rfl | (simp [*]; done) | grind)
theorem fn106 (s : List UInt8) (hs : s.length ≤ 2 ^ 62) (H : Hp) : callL Try.prog pr 106 [.str s] H = some (.bool (txB s), H) := by
  refine run106 (Nat.le_of_ble_eq_true rfl) ?_
  unfold txB
  have hl : lenV Try.prog 9 H (.str s) = some (.int .i64 s.length) := by simp [lenV, u9, hs]
  have e1 : ((s.length : Int) ≤ 200) = (s.length ≤ 200) := by simp; omega
  have hcf := fun (b : Bool) (H : Hp) (h : s.length < 2 ^ 62) => fn147L (b := b) (l := s) (H := H) h badC 148 [] [] kp148 (fun x _ => fn148 x H)
  by_cases h : s.length ≤ 200
  · skip
    simp (disch := first | rfl | omega | exact lt_new _ | assumption | decide | (simp [tk_here, tk_app, tk_0, tk_S, gr_here, gr_app, gr_0, gr_S] <;> omega) | fail) only [r106_0, r106_1, c106, rs106, gc106, hl, e1, h, hcf, xi9_37, go_sem, ↓reduceIte, Nat.reduceLT, Nat.reduceEqDiff, Nat.reduceAdd, Nat.reduceMul, Nat.reduceSub, Int.reduceAdd, Int.reduceSub, Nat.reduceLeDiff, Int.reduceLT, Int.reduceLE, Int.reduceEq, Int.reduceNeg, Int.reduceToNat]
    repeat' ((first | refine guardB_dec (fun hy => ?_) (fun hy => ?_) | refine guardB_bool (fun hy => ?_) (fun hy => ?_) | refine guardQ_ite (fun hy => ?_) (fun hy => ?_) | refine brQ_dec (fun hy => ?_) (fun hy => ?_) | refine brQ_bool (fun hy => ?_) (fun hy => ?_)) <;> (try simp only [Bool.not_eq_true', Bool.not_eq_false', Bool.and_eq_true, Bool.or_eq_false_iff, decide_eq_true_eq, decide_eq_false_iff_not] at hy) <;> simp (disch := first | rfl | omega | exact lt_new _ | assumption | decide | (simp [tk_here, tk_app, tk_0, tk_S, gr_here, gr_app, gr_0, gr_S] <;> omega) | fail) only [r106_0, r106_1, c106, rs106, gc106, hl, e1, h, hcf, xi9_37, go_sem, ↓reduceIte, Nat.reduceLT, Nat.reduceEqDiff, Nat.reduceAdd, Nat.reduceMul, Nat.reduceSub, Int.reduceAdd, Int.reduceSub, Nat.reduceLeDiff, Int.reduceLT, Int.reduceLE, Int.reduceEq, Int.reduceNeg, Int.reduceToNat, hy])
    all_goals (try ((first | refine finQ_same ?_ | refine finQ_app ?_ | (rw [List.append_assoc]; refine finQ_app ?_)) <;> simp (disch := first | rfl | omega | exact lt_new _ | assumption | decide | (simp [tk_here, tk_app, tk_0, tk_S, gr_here, gr_app, gr_0, gr_S] <;> omega) | fail) only [go_sem, ↓reduceIte, Nat.reduceLT, Nat.reduceEqDiff, Nat.reduceAdd, Nat.reduceMul, Nat.reduceSub, Int.reduceAdd, Int.reduceSub, Nat.reduceLeDiff, Int.reduceLT, Int.reduceLE, Int.reduceEq, Int.reduceNeg, Int.reduceToNat, List.append_assoc, List.cons_append, List.nil_append, *]))
    all_goals (try first | rfl | (simp [*]; done) | grind)
  · skip
    simp (disch := first | rfl | omega | exact lt_new _ | assumption | decide | (simp [tk_here, tk_app, tk_0, tk_S, gr_here, gr_app, gr_0, gr_S] <;> omega) | fail) only [r106_0, r106_1, c106, rs106, gc106, hl, e1, h, go_sem, ↓reduceIte, Nat.reduceLT, Nat.reduceEqDiff, Nat.reduceAdd, Nat.reduceMul, Nat.reduceSub, Int.reduceAdd, Int.reduceSub, Nat.reduceLeDiff, Int.reduceLT, Int.reduceLE, Int.reduceEq, Int.reduceNeg, Int.reduceToNat]
    repeat' ((first | refine guardB_dec (fun hy => ?_) (fun hy => ?_) | refine guardB_bool (fun hy => ?_) (fun hy => ?_) | refine guardQ_ite (fun hy => ?_) (fun hy => ?_) | refine brQ_dec (fun hy => ?_) (fun hy => ?_) | refine brQ_bool (fun hy => ?_) (fun hy => ?_)) <;> (try simp only [Bool.not_eq_true', Bool.not_eq_false', Bool.and_eq_true, Bool.or_eq_false_iff, decide_eq_true_eq, decide_eq_false_iff_not] at hy) <;> simp (disch := first | rfl | omega | exact lt_new _ | assumption | decide | (simp [tk_here, tk_app, tk_0, tk_S, gr_here, gr_app, gr_0, gr_S] <;> omega) | fail) only [r106_0, r106_1, c106, rs106, gc106, hl, e1, h, go_sem, ↓reduceIte, Nat.reduceLT, Nat.reduceEqDiff, Nat.reduceAdd, Nat.reduceMul, Nat.reduceSub, Int.reduceAdd, Int.reduceSub, Nat.reduceLeDiff, Int.reduceLT, Int.reduceLE, Int.reduceEq, Int.reduceNeg, Int.reduceToNat, hy])
    all_goals (try ((first | refine finQ_same ?_ | refine finQ_app ?_ | (rw [List.append_assoc]; refine finQ_app ?_)) <;> simp (disch := first | rfl | omega | exact lt_new _ | assumption | decide | (simp [tk_here, tk_app, tk_0, tk_S, gr_here, gr_app, gr_0, gr_S] <;> omega) | fail) only [go_sem, ↓reduceIte, Nat.reduceLT, Nat.reduceEqDiff, Nat.reduceAdd, Nat.reduceMul, Nat.reduceSub, Int.reduceAdd, Int.reduceSub, Nat.reduceLeDiff, Int.reduceLT, Int.reduceLE, Int.reduceEq, Int.reduceNeg, Int.reduceToNat, List.append_assoc, List.cons_append, List.nil_append, *]))
    all_goals (try first | rfl | (simp [*]; done) | grind)
theorem fn107 (f : Fc) (hf : FcOk f) (H : Hp) : callL Try.prog pr 107 [.agg (fcE.f f)] H = some (.bool (fcB f), H) := by
  have h106 := fn106 f.name (by have := hf.1; omega)
  refine run107 (Nat.le_of_ble_eq_true rfl) ?_
  unfold fcB
  simp (disch := first | rfl | omega | exact lt_new _ | assumption | decide | (simp [tk_here, tk_app, tk_0, tk_S, gr_here, gr_app, gr_0, gr_S] <;> omega) | fail) only [r107_0, r107_1, c107, rs107, gc107, h106, go_sem, ↓reduceIte, Nat.reduceLT, Nat.reduceEqDiff, Nat.reduceAdd, Nat.reduceMul, Nat.reduceSub, Int.reduceAdd, Int.reduceSub, Nat.reduceLeDiff, Int.reduceLT, Int.reduceLE, Int.reduceEq, Int.reduceNeg, Int.reduceToNat]
  repeat' ((first | refine guardB_dec (fun hy => ?_) (fun hy => ?_) | refine guardB_bool (fun hy => ?_) (fun hy => ?_) | refine guardQ_ite (fun hy => ?_) (fun hy => ?_) | refine brQ_dec (fun hy => ?_) (fun hy => ?_) | refine brQ_bool (fun hy => ?_) (fun hy => ?_)) <;> (try simp only [Bool.not_eq_true', Bool.not_eq_false', Bool.and_eq_true, Bool.or_eq_false_iff, decide_eq_true_eq, decide_eq_false_iff_not] at hy) <;> simp (disch := first | rfl | omega | exact lt_new _ | assumption | decide | (simp [tk_here, tk_app, tk_0, tk_S, gr_here, gr_app, gr_0, gr_S] <;> omega) | fail) only [r107_0, r107_1, c107, rs107, gc107, h106, go_sem, ↓reduceIte, Nat.reduceLT, Nat.reduceEqDiff, Nat.reduceAdd, Nat.reduceMul, Nat.reduceSub, Int.reduceAdd, Int.reduceSub, Nat.reduceLeDiff, Int.reduceLT, Int.reduceLE, Int.reduceEq, Int.reduceNeg, Int.reduceToNat, hy])
  all_goals (try ((first | refine finQ_same ?_ | refine finQ_app ?_ | (rw [List.append_assoc]; refine finQ_app ?_)) <;> simp (disch := first | rfl | omega | exact lt_new _ | assumption | decide | (simp [tk_here, tk_app, tk_0, tk_S, gr_here, gr_app, gr_0, gr_S] <;> omega) | fail) only [go_sem, ↓reduceIte, Nat.reduceLT, Nat.reduceEqDiff, Nat.reduceAdd, Nat.reduceMul, Nat.reduceSub, Int.reduceAdd, Int.reduceSub, Nat.reduceLeDiff, Int.reduceLT, Int.reduceLE, Int.reduceEq, Int.reduceNeg, Int.reduceToNat, List.append_assoc, List.cons_append, List.nil_append, *]))
  all_goals (try first | rfl | (simp [*]; done) | grind)
theorem fn108 (n : Nm) (hn : NmOk n) (H : Hp) : callL Try.prog pr 108 [.agg (nmE.f n)] H = some (.bool (nmB n), H) := by
  have h106 := fn106 n.text (by have := hn.2; omega)
  have e1 : ((1 : Int) ≤ n.addr.length) = (1 ≤ n.addr.length) := by simp; omega
  have e2 : ((n.addr.length : Int) ≤ 16) = (n.addr.length ≤ 16) := by simp; omega
  refine run108 (Nat.le_of_ble_eq_true rfl) ?_
  unfold nmB
  simp (disch := first | rfl | omega | exact lt_new _ | assumption | decide | (simp [tk_here, tk_app, tk_0, tk_S, gr_here, gr_app, gr_0, gr_S] <;> omega) | fail) only [r108_0, r108_1, c108, rs108, gc108, h106, e1, e2, go_sem, ↓reduceIte, Nat.reduceLT, Nat.reduceEqDiff, Nat.reduceAdd, Nat.reduceMul, Nat.reduceSub, Int.reduceAdd, Int.reduceSub, Nat.reduceLeDiff, Int.reduceLT, Int.reduceLE, Int.reduceEq, Int.reduceNeg, Int.reduceToNat]
  repeat' ((first | refine guardB_dec (fun hy => ?_) (fun hy => ?_) | refine guardB_bool (fun hy => ?_) (fun hy => ?_) | refine guardQ_ite (fun hy => ?_) (fun hy => ?_) | refine brQ_dec (fun hy => ?_) (fun hy => ?_) | refine brQ_bool (fun hy => ?_) (fun hy => ?_)) <;> (try simp only [Bool.not_eq_true', Bool.not_eq_false', Bool.and_eq_true, Bool.or_eq_false_iff, decide_eq_true_eq, decide_eq_false_iff_not] at hy) <;> simp (disch := first | rfl | omega | exact lt_new _ | assumption | decide | (simp [tk_here, tk_app, tk_0, tk_S, gr_here, gr_app, gr_0, gr_S] <;> omega) | fail) only [r108_0, r108_1, c108, rs108, gc108, h106, e1, e2, go_sem, ↓reduceIte, Nat.reduceLT, Nat.reduceEqDiff, Nat.reduceAdd, Nat.reduceMul, Nat.reduceSub, Int.reduceAdd, Int.reduceSub, Nat.reduceLeDiff, Int.reduceLT, Int.reduceLE, Int.reduceEq, Int.reduceNeg, Int.reduceToNat, hy])
  all_goals (try ((first | refine finQ_same ?_ | refine finQ_app ?_ | (rw [List.append_assoc]; refine finQ_app ?_)) <;> simp (disch := first | rfl | omega | exact lt_new _ | assumption | decide | (simp [tk_here, tk_app, tk_0, tk_S, gr_here, gr_app, gr_0, gr_S] <;> omega) | fail) only [go_sem, ↓reduceIte, Nat.reduceLT, Nat.reduceEqDiff, Nat.reduceAdd, Nat.reduceMul, Nat.reduceSub, Int.reduceAdd, Int.reduceSub, Nat.reduceLeDiff, Int.reduceLT, Int.reduceLE, Int.reduceEq, Int.reduceNeg, Int.reduceToNat, List.append_assoc, List.cons_append, List.nil_append, *]))
  all_goals (try first | rfl | (simp [*]; done) | grind)
theorem fn109 (s : Sc) (hs : ScOk s) (H : Hp) : callL Try.prog pr 109 [.agg (scE.f s)] H = some (.bool (scB s), H) := by
  have h106 := fn106 s.label (by have := hs.1; omega)
  have e1 : ((1 : Int) ≤ s.key.length) = (1 ≤ s.key.length) := by simp; omega
  have e2 : ((s.key.length : Int) ≤ 200) = (s.key.length ≤ 200) := by simp; omega
  refine run109 (Nat.le_of_ble_eq_true rfl) ?_
  unfold scB
  simp (disch := first | rfl | omega | exact lt_new _ | assumption | decide | (simp [tk_here, tk_app, tk_0, tk_S, gr_here, gr_app, gr_0, gr_S] <;> omega) | fail) only [r109_0, r109_1, c109, rs109, gc109, h106, e1, e2, go_sem, ↓reduceIte, Nat.reduceLT, Nat.reduceEqDiff, Nat.reduceAdd, Nat.reduceMul, Nat.reduceSub, Int.reduceAdd, Int.reduceSub, Nat.reduceLeDiff, Int.reduceLT, Int.reduceLE, Int.reduceEq, Int.reduceNeg, Int.reduceToNat]
  repeat' ((first | refine guardB_dec (fun hy => ?_) (fun hy => ?_) | refine guardB_bool (fun hy => ?_) (fun hy => ?_) | refine guardQ_ite (fun hy => ?_) (fun hy => ?_) | refine brQ_dec (fun hy => ?_) (fun hy => ?_) | refine brQ_bool (fun hy => ?_) (fun hy => ?_)) <;> (try simp only [Bool.not_eq_true', Bool.not_eq_false', Bool.and_eq_true, Bool.or_eq_false_iff, decide_eq_true_eq, decide_eq_false_iff_not] at hy) <;> simp (disch := first | rfl | omega | exact lt_new _ | assumption | decide | (simp [tk_here, tk_app, tk_0, tk_S, gr_here, gr_app, gr_0, gr_S] <;> omega) | fail) only [r109_0, r109_1, c109, rs109, gc109, h106, e1, e2, go_sem, ↓reduceIte, Nat.reduceLT, Nat.reduceEqDiff, Nat.reduceAdd, Nat.reduceMul, Nat.reduceSub, Int.reduceAdd, Int.reduceSub, Nat.reduceLeDiff, Int.reduceLT, Int.reduceLE, Int.reduceEq, Int.reduceNeg, Int.reduceToNat, hy])
  all_goals (try ((first | refine finQ_same ?_ | refine finQ_app ?_ | (rw [List.append_assoc]; refine finQ_app ?_)) <;> simp (disch := first | rfl | omega | exact lt_new _ | assumption | decide | (simp [tk_here, tk_app, tk_0, tk_S, gr_here, gr_app, gr_0, gr_S] <;> omega) | fail) only [go_sem, ↓reduceIte, Nat.reduceLT, Nat.reduceEqDiff, Nat.reduceAdd, Nat.reduceMul, Nat.reduceSub, Int.reduceAdd, Int.reduceSub, Nat.reduceLeDiff, Int.reduceLT, Int.reduceLE, Int.reduceEq, Int.reduceNeg, Int.reduceToNat, List.append_assoc, List.cons_append, List.nil_append, *]))
  all_goals (try first | rfl | (simp [*]; done) | grind)
theorem fn110 (p : Pk) (hp : PkOk p) (b : Bool) (fs : List Fc) (H : Hp) : callL Try.prog pr 110 [.agg (pkE.f p), slV b fcE fs] H = some (.bool (pfB p fs), H) := by
  have h106 := fn106 p.note (by have := hp.2.2.2.2; omega)
  have hl := hp.2.2.2.1
  refine run110 (Nat.le_of_ble_eq_true rfl) ?_
  unfold pfB pkB
  by_cases h1 : 0 ≤ p.face ∧ p.face < fs.length
  · have h1a : ¬ p.face < 0 := by omega
    have h1b : ¬ (fs.length : Int) ≤ p.face := by omega
    have l2 := fun H => ldF2 (H := H) (l := fs) (i := p.face.toNat) (by omega)
    rw [decide_eq_true h1.1, decide_eq_true h1.2]
    simp (disch := first | rfl | omega | exact lt_new _ | assumption | decide | (simp [tk_here, tk_app, tk_0, tk_S, gr_here, gr_app, gr_0, gr_S] <;> omega) | fail) only [r110_0, r110_1, r110_2, r110_3, r110_4, c110, rs110, gc110, h106, h1a, h1b, h1, l2, go_sem, ↓reduceIte, Nat.reduceLT, Nat.reduceEqDiff, Nat.reduceAdd, Nat.reduceMul, Nat.reduceSub, Int.reduceAdd, Int.reduceSub, Nat.reduceLeDiff, Int.reduceLT, Int.reduceLE, Int.reduceEq, Int.reduceNeg, Int.reduceToNat]
    repeat' ((first | refine guardB_dec (fun hy => ?_) (fun hy => ?_) | refine guardB_bool (fun hy => ?_) (fun hy => ?_) | refine guardQ_ite (fun hy => ?_) (fun hy => ?_) | refine brQ_dec (fun hy => ?_) (fun hy => ?_) | refine brQ_bool (fun hy => ?_) (fun hy => ?_)) <;> (try simp only [Bool.not_eq_true', Bool.not_eq_false', Bool.and_eq_true, Bool.or_eq_false_iff, decide_eq_true_eq, decide_eq_false_iff_not] at hy) <;> simp (disch := first | rfl | omega | exact lt_new _ | assumption | decide | (simp [tk_here, tk_app, tk_0, tk_S, gr_here, gr_app, gr_0, gr_S] <;> omega) | fail) only [r110_0, r110_1, r110_2, r110_3, r110_4, c110, rs110, gc110, h106, h1a, h1b, h1, l2, go_sem, ↓reduceIte, Nat.reduceLT, Nat.reduceEqDiff, Nat.reduceAdd, Nat.reduceMul, Nat.reduceSub, Int.reduceAdd, Int.reduceSub, Nat.reduceLeDiff, Int.reduceLT, Int.reduceLE, Int.reduceEq, Int.reduceNeg, Int.reduceToNat, hy])
    all_goals (try ((first | refine finQ_same ?_ | refine finQ_app ?_ | (rw [List.append_assoc]; refine finQ_app ?_)) <;> simp (disch := first | rfl | omega | exact lt_new _ | assumption | decide | (simp [tk_here, tk_app, tk_0, tk_S, gr_here, gr_app, gr_0, gr_S] <;> omega) | fail) only [go_sem, ↓reduceIte, Nat.reduceLT, Nat.reduceEqDiff, Nat.reduceAdd, Nat.reduceMul, Nat.reduceSub, Int.reduceAdd, Int.reduceSub, Nat.reduceLeDiff, Int.reduceLT, Int.reduceLE, Int.reduceEq, Int.reduceNeg, Int.reduceToNat, List.append_assoc, List.cons_append, List.nil_append, *]))
    all_goals (try first | rfl | (simp [*]; done) | grind)
  · have h1b : ¬ p.face < 0 → (fs.length : Int) ≤ p.face := by omega
    have hF : (decide (0 ≤ p.face) && decide (p.face < (fs.length : Int))) = false := by
      simp only [Bool.and_eq_false_iff, decide_eq_false_iff_not]; omega
    rw [hF]
    simp (disch := first | rfl | omega | exact lt_new _ | assumption | decide | (simp [tk_here, tk_app, tk_0, tk_S, gr_here, gr_app, gr_0, gr_S] <;> omega) | fail) only [r110_0, r110_1, r110_2, r110_3, r110_4, c110, rs110, gc110, h106, h1b, go_sem, ↓reduceIte, Nat.reduceLT, Nat.reduceEqDiff, Nat.reduceAdd, Nat.reduceMul, Nat.reduceSub, Int.reduceAdd, Int.reduceSub, Nat.reduceLeDiff, Int.reduceLT, Int.reduceLE, Int.reduceEq, Int.reduceNeg, Int.reduceToNat]
    repeat' ((first | refine guardB_dec (fun hy => ?_) (fun hy => ?_) | refine guardB_bool (fun hy => ?_) (fun hy => ?_) | refine guardQ_ite (fun hy => ?_) (fun hy => ?_) | refine brQ_dec (fun hy => ?_) (fun hy => ?_) | refine brQ_bool (fun hy => ?_) (fun hy => ?_)) <;> (try simp only [Bool.not_eq_true', Bool.not_eq_false', Bool.and_eq_true, Bool.or_eq_false_iff, decide_eq_true_eq, decide_eq_false_iff_not] at hy) <;> simp (disch := first | rfl | omega | exact lt_new _ | assumption | decide | (simp [tk_here, tk_app, tk_0, tk_S, gr_here, gr_app, gr_0, gr_S] <;> omega) | fail) only [r110_0, r110_1, r110_2, r110_3, r110_4, c110, rs110, gc110, h106, h1b, go_sem, ↓reduceIte, Nat.reduceLT, Nat.reduceEqDiff, Nat.reduceAdd, Nat.reduceMul, Nat.reduceSub, Int.reduceAdd, Int.reduceSub, Nat.reduceLeDiff, Int.reduceLT, Int.reduceLE, Int.reduceEq, Int.reduceNeg, Int.reduceToNat, hy])
    all_goals (try ((first | refine finQ_same ?_ | refine finQ_app ?_ | (rw [List.append_assoc]; refine finQ_app ?_)) <;> simp (disch := first | rfl | omega | exact lt_new _ | assumption | decide | (simp [tk_here, tk_app, tk_0, tk_S, gr_here, gr_app, gr_0, gr_S] <;> omega) | fail) only [go_sem, ↓reduceIte, Nat.reduceLT, Nat.reduceEqDiff, Nat.reduceAdd, Nat.reduceMul, Nat.reduceSub, Int.reduceAdd, Int.reduceSub, Nat.reduceLeDiff, Int.reduceLT, Int.reduceLE, Int.reduceEq, Int.reduceNeg, Int.reduceToNat, List.append_assoc, List.cons_append, List.nil_append, *]))
    all_goals (try first | rfl | (simp [*]; done) | grind)
end Go.Proofs.Ytejkgnmjdaohdaa
/-
  Validate of the program, walked. No statement of the seat stands here.
-/
namespace Go.Proofs.Ytejkgnmjdaohdaa
open Go Go.An
set_option maxRecDepth 4000
set_option linter.unusedSimpArgs false
set_option linter.unusedVariables false

def largeB (c : Cp) : Bool := decide ((4 : Int) < c.faces.length) || decide ((60 : Int) < c.names.length) || decide ((60 : Int) < c.secrets.length) || decide ((100 : Int) < c.packets.length)
def wrongB (c : Cp) : Bool := ((((decide ((c.faces.length : Int) = 0) || !txB c.note) || c.faces.any fun f => !fcB f) || c.names.any fun n => !nmB n) || c.secrets.any fun s => !scB s) || c.packets.any fun p => !pfB p c.faces
def valE (c : Cp) : Int := if largeB c = true then 3 else if wrongB c = true then 1 else 0
set_option maxHeartbeats 8000000 in
theorem fn57 (c : Cp) (hc : CpOk c) (H : Hp) : callL Try.prog pr 57 [.agg (cpE.f c)] H = some (.int .i64 (valE c), H) := by
  obtain ⟨o0, o1, o1l, o2, o2l, o3, o3l, o4, o4l⟩ := hc
  have h106 := fn106 c.note (by omega)
  have h107 := fun i (h : i < c.faces.length) H => fn107 (fcE.at c.faces i) (o1 _ (fcE.at_mem h)) H
  have h108 := fun i (h : i < c.names.length) H => fn108 (nmE.at c.names i) (o2 _ (nmE.at_mem h)) H
  have h109 := fun i (h : i < c.secrets.length) H => fn109 (scE.at c.secrets i) (o3 _ (scE.at_mem h)) H
  have h110 := fun i (h : i < c.packets.length) H => fn110 (pkE.at c.packets i) (o4 _ (pkE.at_mem h)) c.facesN c.faces H
  refine run57 (Nat.le_of_ble_eq_true rfl) ?_
  unfold valE
  by_cases hL : largeB c = true
  · rw [if_pos hL]
    unfold largeB at hL
    simp only [Bool.or_eq_true, decide_eq_true_eq] at hL
    simp (disch := first | rfl | omega | exact lt_new _ | assumption | decide | (simp [tk_here, tk_app, tk_0, tk_S, gr_here, gr_app, gr_0, gr_S] <;> omega) | fail) only [r57_0, r57_1, r57_2, c57, rs57, gc57, loadV_ptr, storeV_ptr, List.append_assoc, List.length_append, List.length_cons, List.length_nil, List.set_cons_zero, List.set_cons_succ, tk_here, tk_app, gr_here, gr_app, st_here, st_app, go_sem, ↓reduceIte, Nat.reduceLT, Nat.reduceEqDiff, Nat.reduceAdd, Nat.reduceMul, Nat.reduceSub, Int.reduceAdd, Int.reduceSub, Nat.reduceLeDiff, Int.reduceLT, Int.reduceLE, Int.reduceEq, Int.reduceNeg, Int.reduceToNat]
    repeat' ((first | refine guardB_dec (fun hy => ?_) (fun hy => ?_) | refine guardB_bool (fun hy => ?_) (fun hy => ?_) | refine guardQ_ite (fun hy => ?_) (fun hy => ?_) | refine brQ_dec (fun hy => ?_) (fun hy => ?_) | refine brQ_bool (fun hy => ?_) (fun hy => ?_)) <;> (try simp only [Bool.not_eq_true', Bool.not_eq_false', Bool.and_eq_true, Bool.or_eq_false_iff, decide_eq_true_eq, decide_eq_false_iff_not] at hy) <;> simp (disch := first | rfl | omega | exact lt_new _ | assumption | decide | (simp [tk_here, tk_app, tk_0, tk_S, gr_here, gr_app, gr_0, gr_S] <;> omega) | fail) only [r57_0, r57_1, r57_2, c57, rs57, gc57, loadV_ptr, storeV_ptr, List.append_assoc, List.length_append, List.length_cons, List.length_nil, List.set_cons_zero, List.set_cons_succ, tk_here, tk_app, gr_here, gr_app, st_here, st_app, go_sem, ↓reduceIte, Nat.reduceLT, Nat.reduceEqDiff, Nat.reduceAdd, Nat.reduceMul, Nat.reduceSub, Int.reduceAdd, Int.reduceSub, Nat.reduceLeDiff, Int.reduceLT, Int.reduceLE, Int.reduceEq, Int.reduceNeg, Int.reduceToNat, hy])
    all_goals first | (refine finQ_app ?_; simp (disch := first | rfl | omega | exact lt_new _ | assumption | decide | (simp [tk_here, tk_app, tk_0, tk_S, gr_here, gr_app, gr_0, gr_S] <;> omega) | fail) only [go_sem, ↓reduceIte, Nat.reduceLT, Nat.reduceEqDiff, Nat.reduceAdd, Nat.reduceMul, Nat.reduceSub, Int.reduceAdd, Int.reduceSub, Nat.reduceLeDiff, Int.reduceLT, Int.reduceLE, Int.reduceEq, Int.reduceNeg, Int.reduceToNat]; done) | omega
  · rw [if_neg hL]
    unfold largeB at hL
    simp only [Bool.or_eq_true, decide_eq_true_eq, not_or] at hL
    obtain ⟨⟨⟨q1, q2⟩, q3⟩, q4⟩ := hL
    simp (disch := first | rfl | omega | exact lt_new _ | assumption | decide | (simp [tk_here, tk_app, tk_0, tk_S, gr_here, gr_app, gr_0, gr_S] <;> omega) | fail) only [r57_0, r57_1, r57_3, r57_4, c57, loadV_ptr, storeV_ptr, List.append_assoc, List.length_append, List.length_cons, List.length_nil, List.set_cons_zero, List.set_cons_succ, tk_here, tk_app, gr_here, gr_app, st_here, st_app, q1, q2, q3, q4, h106, go_sem, ↓reduceIte, Nat.reduceLT, Nat.reduceEqDiff, Nat.reduceAdd, Nat.reduceMul, Nat.reduceSub, Int.reduceAdd, Int.reduceSub, Nat.reduceLeDiff, Int.reduceLT, Int.reduceLE, Int.reduceEq, Int.reduceNeg, Int.reduceToNat]
    repeat' ((first | refine guardB_dec (fun hy => ?_) (fun hy => ?_) | refine guardB_bool (fun hy => ?_) (fun hy => ?_) | refine guardQ_ite (fun hy => ?_) (fun hy => ?_) | refine brQ_dec (fun hy => ?_) (fun hy => ?_) | refine brQ_bool (fun hy => ?_) (fun hy => ?_)) <;> (try simp only [Bool.not_eq_true', Bool.not_eq_false', Bool.and_eq_true, Bool.or_eq_false_iff, decide_eq_true_eq, decide_eq_false_iff_not] at hy) <;> simp (disch := first | rfl | omega | exact lt_new _ | assumption | decide | (simp [tk_here, tk_app, tk_0, tk_S, gr_here, gr_app, gr_0, gr_S] <;> omega) | fail) only [r57_0, r57_1, r57_3, r57_4, c57, loadV_ptr, storeV_ptr, List.append_assoc, List.length_append, List.length_cons, List.length_nil, List.set_cons_zero, List.set_cons_succ, tk_here, tk_app, gr_here, gr_app, st_here, st_app, q1, q2, q3, q4, h106, go_sem, ↓reduceIte, Nat.reduceLT, Nat.reduceEqDiff, Nat.reduceAdd, Nat.reduceMul, Nat.reduceSub, Int.reduceAdd, Int.reduceSub, Nat.reduceLeDiff, Int.reduceLT, Int.reduceLE, Int.reduceEq, Int.reduceNeg, Int.reduceToNat, hy])
    all_goals
      obtain ⟨w0, hw0⟩ : ∃ w0, (decide ((c.faces.length : Int) = 0) || !txB c.note) = w0 := ⟨_, rfl⟩
      refine Wp_loop (fun m T D H' => ∃ i G, m = c.faces.length - i ∧ i ≤ c.faces.length ∧ D = [] ∧ H' = H ++ .row 0 (cpE.f c) true :: G ∧ get T 1 = .ptr H.length 0 0 ∧ get T 45 = slV c.facesN fcE c.faces ∧ get T 46 = .int .i64 c.faces.length ∧ get T 47 = .int .i64 i ∧ get T 3 = .bool (w0 || (c.faces.take i).any fun f => !fcB f)) ?_ c.faces.length _ _ _ ?_
      case refine_2 =>
        refine ⟨0, [], rfl, by omega, rfl, rfl, ?_, ?_, ?_, ?_, ?_⟩
        all_goals simp (disch := first | rfl | omega | exact lt_new _ | assumption | decide | (simp [tk_here, tk_app, tk_0, tk_S, gr_here, gr_app, gr_0, gr_S] <;> omega) | fail) only [go_sem, ↓reduceIte, Nat.reduceLT, Nat.reduceEqDiff, Nat.reduceAdd, Nat.reduceMul, Nat.reduceSub, Int.reduceAdd, Int.reduceSub, Nat.reduceLeDiff, Int.reduceLT, Int.reduceLE, Int.reduceEq, Int.reduceNeg, Int.reduceToNat]
        all_goals first | rfl | (simp; done) | (rw [hy]; done) | (rw [← hw0, decide_eq_true hy] <;> simp; done) | (rw [← hw0, decide_eq_false hy] <;> simp; done) | fail
      rintro m T D H' ⟨i, G, rfl, hi, rfl, rfl, t1, t45, t46, t47, t3⟩
      by_cases hlt : i < c.faces.length
      · have hlt' : (i : Int) < c.faces.length := by omega
        have hw := any_take fcE hlt (fun f => !fcB f) w0
        obtain ⟨w1, hw1⟩ : ∃ w1, (w0 || (c.faces.take i).any fun f => !fcB f) = w1 := ⟨_, rfl⟩
        rw [hw1] at t3 hw
        have ld := fun H => ldF (H := H) hlt
        have hf := h107 i hlt
        simp (disch := first | rfl | omega | exact lt_new _ | assumption | decide | (simp [tk_here, tk_app, tk_0, tk_S, gr_here, gr_app, gr_0, gr_S] <;> omega) | fail) only [l57_9, r57_5, r57_6, r57_7, r57_8, loadV_ptr, storeV_ptr, List.append_assoc, List.length_append, List.length_cons, List.length_nil, List.set_cons_zero, List.set_cons_succ, tk_here, tk_app, gr_here, gr_app, st_here, st_app, t1, t45, t46, t47, t3, hlt', ld, hf, go_sem, ↓reduceIte, Nat.reduceLT, Nat.reduceEqDiff, Nat.reduceAdd, Nat.reduceMul, Nat.reduceSub, Int.reduceAdd, Int.reduceSub, Nat.reduceLeDiff, Int.reduceLT, Int.reduceLE, Int.reduceEq, Int.reduceNeg, Int.reduceToNat]
        repeat' ((first | refine guardB_dec (fun hy => ?_) (fun hy => ?_) | refine guardB_bool (fun hy => ?_) (fun hy => ?_) | refine guardQ_ite (fun hy => ?_) (fun hy => ?_) | refine brQ_dec (fun hy => ?_) (fun hy => ?_) | refine brQ_bool (fun hy => ?_) (fun hy => ?_)) <;> (try simp only [Bool.not_eq_true', Bool.not_eq_false', Bool.and_eq_true, Bool.or_eq_false_iff, decide_eq_true_eq, decide_eq_false_iff_not] at hy) <;> simp (disch := first | rfl | omega | exact lt_new _ | assumption | decide | (simp [tk_here, tk_app, tk_0, tk_S, gr_here, gr_app, gr_0, gr_S] <;> omega) | fail) only [l57_9, r57_5, r57_6, r57_7, r57_8, loadV_ptr, storeV_ptr, List.append_assoc, List.length_append, List.length_cons, List.length_nil, List.set_cons_zero, List.set_cons_succ, tk_here, tk_app, gr_here, gr_app, st_here, st_app, t1, t45, t46, t47, t3, hlt', ld, hf, go_sem, ↓reduceIte, Nat.reduceLT, Nat.reduceEqDiff, Nat.reduceAdd, Nat.reduceMul, Nat.reduceSub, Int.reduceAdd, Int.reduceSub, Nat.reduceLeDiff, Int.reduceLT, Int.reduceLE, Int.reduceEq, Int.reduceNeg, Int.reduceToNat, hy])
        all_goals exact ⟨_, by omega, i + 1, _, rfl, hlt, rfl, rfl, by rw [hw]; simp [hy]⟩
      · obtain rfl : i = c.faces.length := by omega
        rw [List.take_length] at t3
        clear hy
        obtain ⟨v1, hv1⟩ : ∃ v, (w0 || c.faces.any fun f => !fcB f) = v := ⟨_, rfl⟩
        rw [hv1] at t3
        simp (disch := first | rfl | omega | exact lt_new _ | assumption | decide | (simp [tk_here, tk_app, tk_0, tk_S, gr_here, gr_app, gr_0, gr_S] <;> omega) | fail) only [l57_9, r57_5, r57_10, loadV_ptr, storeV_ptr, List.append_assoc, List.length_append, List.length_cons, List.length_nil, List.set_cons_zero, List.set_cons_succ, tk_here, tk_app, gr_here, gr_app, st_here, st_app, t1, t45, t46, t47, t3, Int.lt_irrefl, go_sem, ↓reduceIte, Nat.reduceLT, Nat.reduceEqDiff, Nat.reduceAdd, Nat.reduceMul, Nat.reduceSub, Int.reduceAdd, Int.reduceSub, Nat.reduceLeDiff, Int.reduceLT, Int.reduceLE, Int.reduceEq, Int.reduceNeg, Int.reduceToNat]
        repeat' ((first | refine guardB_dec (fun hy => ?_) (fun hy => ?_) | refine guardB_bool (fun hy => ?_) (fun hy => ?_) | refine guardQ_ite (fun hy => ?_) (fun hy => ?_) | refine brQ_dec (fun hy => ?_) (fun hy => ?_) | refine brQ_bool (fun hy => ?_) (fun hy => ?_)) <;> (try simp only [Bool.not_eq_true', Bool.not_eq_false', Bool.and_eq_true, Bool.or_eq_false_iff, decide_eq_true_eq, decide_eq_false_iff_not] at hy) <;> simp (disch := first | rfl | omega | exact lt_new _ | assumption | decide | (simp [tk_here, tk_app, tk_0, tk_S, gr_here, gr_app, gr_0, gr_S] <;> omega) | fail) only [l57_9, r57_5, r57_10, loadV_ptr, storeV_ptr, List.append_assoc, List.length_append, List.length_cons, List.length_nil, List.set_cons_zero, List.set_cons_succ, tk_here, tk_app, gr_here, gr_app, st_here, st_app, t1, t45, t46, t47, t3, Int.lt_irrefl, go_sem, ↓reduceIte, Nat.reduceLT, Nat.reduceEqDiff, Nat.reduceAdd, Nat.reduceMul, Nat.reduceSub, Int.reduceAdd, Int.reduceSub, Nat.reduceLeDiff, Int.reduceLT, Int.reduceLE, Int.reduceEq, Int.reduceNeg, Int.reduceToNat, hy])
        refine Wp_loop (fun m T D H' => ∃ i G, m = c.names.length - i ∧ i ≤ c.names.length ∧ D = [] ∧ H' = H ++ .row 0 (cpE.f c) true :: G ∧ get T 1 = .ptr H.length 0 0 ∧ get T 59 = slV c.namesN nmE c.names ∧ get T 60 = .int .i64 c.names.length ∧ get T 61 = .int .i64 i ∧ get T 3 = .bool (v1 || (c.names.take i).any fun x => !nmB x)) ?_ c.names.length _ _ _ ?_
        case refine_2 =>
          refine ⟨0, _, rfl, by omega, rfl, rfl, ?_, ?_, ?_, ?_, ?_⟩
          all_goals simp (disch := first | rfl | omega | exact lt_new _ | assumption | decide | (simp [tk_here, tk_app, tk_0, tk_S, gr_here, gr_app, gr_0, gr_S] <;> omega) | fail) only [go_sem, ↓reduceIte, Nat.reduceLT, Nat.reduceEqDiff, Nat.reduceAdd, Nat.reduceMul, Nat.reduceSub, Int.reduceAdd, Int.reduceSub, Nat.reduceLeDiff, Int.reduceLT, Int.reduceLE, Int.reduceEq, Int.reduceNeg, Int.reduceToNat, t1, t3]
          all_goals first | rfl | (simp; done)
        clear t1 t3 t45 t46 t47
        rintro m T D H' ⟨i, G, rfl, hi, rfl, rfl, t1, t59, t60, t61, t3⟩
        by_cases hlt : i < c.names.length
        · have hlt' : (i : Int) < c.names.length := by omega
          have hw := any_take nmE hlt (fun x => !nmB x) v1
          obtain ⟨w1, hw1⟩ : ∃ w1, (v1 || (c.names.take i).any fun x => !nmB x) = w1 := ⟨_, rfl⟩
          rw [hw1] at t3 hw
          have ld := fun H => ldN (H := H) hlt
          have hf := h108 i hlt
          simp (disch := first | rfl | omega | exact lt_new _ | assumption | decide | (simp [tk_here, tk_app, tk_0, tk_S, gr_here, gr_app, gr_0, gr_S] <;> omega) | fail) only [l57_15, r57_11, r57_12, r57_13, r57_14, loadV_ptr, storeV_ptr, List.append_assoc, List.length_append, List.length_cons, List.length_nil, List.set_cons_zero, List.set_cons_succ, tk_here, tk_app, gr_here, gr_app, st_here, st_app, t1, t59, t60, t61, t3, hlt', ld, hf, go_sem, ↓reduceIte, Nat.reduceLT, Nat.reduceEqDiff, Nat.reduceAdd, Nat.reduceMul, Nat.reduceSub, Int.reduceAdd, Int.reduceSub, Nat.reduceLeDiff, Int.reduceLT, Int.reduceLE, Int.reduceEq, Int.reduceNeg, Int.reduceToNat]
          repeat' ((first | refine guardB_dec (fun hy => ?_) (fun hy => ?_) | refine guardB_bool (fun hy => ?_) (fun hy => ?_) | refine guardQ_ite (fun hy => ?_) (fun hy => ?_) | refine brQ_dec (fun hy => ?_) (fun hy => ?_) | refine brQ_bool (fun hy => ?_) (fun hy => ?_)) <;> (try simp only [Bool.not_eq_true', Bool.not_eq_false', Bool.and_eq_true, Bool.or_eq_false_iff, decide_eq_true_eq, decide_eq_false_iff_not] at hy) <;> simp (disch := first | rfl | omega | exact lt_new _ | assumption | decide | (simp [tk_here, tk_app, tk_0, tk_S, gr_here, gr_app, gr_0, gr_S] <;> omega) | fail) only [l57_15, r57_11, r57_12, r57_13, r57_14, loadV_ptr, storeV_ptr, List.append_assoc, List.length_append, List.length_cons, List.length_nil, List.set_cons_zero, List.set_cons_succ, tk_here, tk_app, gr_here, gr_app, st_here, st_app, t1, t59, t60, t61, t3, hlt', ld, hf, go_sem, ↓reduceIte, Nat.reduceLT, Nat.reduceEqDiff, Nat.reduceAdd, Nat.reduceMul, Nat.reduceSub, Int.reduceAdd, Int.reduceSub, Nat.reduceLeDiff, Int.reduceLT, Int.reduceLE, Int.reduceEq, Int.reduceNeg, Int.reduceToNat, hy])
          all_goals exact ⟨_, by omega, i + 1, _, rfl, hlt, rfl, rfl, by rw [hw]; simp [hy]⟩
        · obtain rfl : i = c.names.length := by omega
          rw [List.take_length] at t3
          obtain ⟨v2, hv2⟩ : ∃ v, (v1 || c.names.any fun x => !nmB x) = v := ⟨_, rfl⟩
          rw [hv2] at t3
          simp (disch := first | rfl | omega | exact lt_new _ | assumption | decide | (simp [tk_here, tk_app, tk_0, tk_S, gr_here, gr_app, gr_0, gr_S] <;> omega) | fail) only [l57_15, r57_11, r57_16, loadV_ptr, storeV_ptr, List.append_assoc, List.length_append, List.length_cons, List.length_nil, List.set_cons_zero, List.set_cons_succ, tk_here, tk_app, gr_here, gr_app, st_here, st_app, t1, t59, t60, t61, t3, Int.lt_irrefl, go_sem, ↓reduceIte, Nat.reduceLT, Nat.reduceEqDiff, Nat.reduceAdd, Nat.reduceMul, Nat.reduceSub, Int.reduceAdd, Int.reduceSub, Nat.reduceLeDiff, Int.reduceLT, Int.reduceLE, Int.reduceEq, Int.reduceNeg, Int.reduceToNat]
          repeat' ((first | refine guardB_dec (fun hy => ?_) (fun hy => ?_) | refine guardB_bool (fun hy => ?_) (fun hy => ?_) | refine guardQ_ite (fun hy => ?_) (fun hy => ?_) | refine brQ_dec (fun hy => ?_) (fun hy => ?_) | refine brQ_bool (fun hy => ?_) (fun hy => ?_)) <;> (try simp only [Bool.not_eq_true', Bool.not_eq_false', Bool.and_eq_true, Bool.or_eq_false_iff, decide_eq_true_eq, decide_eq_false_iff_not] at hy) <;> simp (disch := first | rfl | omega | exact lt_new _ | assumption | decide | (simp [tk_here, tk_app, tk_0, tk_S, gr_here, gr_app, gr_0, gr_S] <;> omega) | fail) only [l57_15, r57_11, r57_16, loadV_ptr, storeV_ptr, List.append_assoc, List.length_append, List.length_cons, List.length_nil, List.set_cons_zero, List.set_cons_succ, tk_here, tk_app, gr_here, gr_app, st_here, st_app, t1, t59, t60, t61, t3, Int.lt_irrefl, go_sem, ↓reduceIte, Nat.reduceLT, Nat.reduceEqDiff, Nat.reduceAdd, Nat.reduceMul, Nat.reduceSub, Int.reduceAdd, Int.reduceSub, Nat.reduceLeDiff, Int.reduceLT, Int.reduceLE, Int.reduceEq, Int.reduceNeg, Int.reduceToNat, hy])
          refine Wp_loop (fun m T D H' => ∃ i G, m = c.secrets.length - i ∧ i ≤ c.secrets.length ∧ D = [] ∧ H' = H ++ .row 0 (cpE.f c) true :: G ∧ get T 1 = .ptr H.length 0 0 ∧ get T 73 = slV c.secretsN scE c.secrets ∧ get T 74 = .int .i64 c.secrets.length ∧ get T 75 = .int .i64 i ∧ get T 3 = .bool (v2 || (c.secrets.take i).any fun x => !scB x)) ?_ c.secrets.length _ _ _ ?_
          case refine_2 =>
            refine ⟨0, _, rfl, by omega, rfl, rfl, ?_, ?_, ?_, ?_, ?_⟩
            all_goals simp (disch := first | rfl | omega | exact lt_new _ | assumption | decide | (simp [tk_here, tk_app, tk_0, tk_S, gr_here, gr_app, gr_0, gr_S] <;> omega) | fail) only [go_sem, ↓reduceIte, Nat.reduceLT, Nat.reduceEqDiff, Nat.reduceAdd, Nat.reduceMul, Nat.reduceSub, Int.reduceAdd, Int.reduceSub, Nat.reduceLeDiff, Int.reduceLT, Int.reduceLE, Int.reduceEq, Int.reduceNeg, Int.reduceToNat, t1, t3]
            all_goals first | rfl | (simp; done)
          clear t1 t3 t59 t60 t61
          rintro m T D H' ⟨i, G, rfl, hi, rfl, rfl, t1, t73, t74, t75, t3⟩
          by_cases hlt : i < c.secrets.length
          · have hlt' : (i : Int) < c.secrets.length := by omega
            have hw := any_take scE hlt (fun x => !scB x) v2
            obtain ⟨w1, hw1⟩ : ∃ w1, (v2 || (c.secrets.take i).any fun x => !scB x) = w1 := ⟨_, rfl⟩
            rw [hw1] at t3 hw
            have ld := fun H => ldS (H := H) hlt
            have hf := h109 i hlt
            simp (disch := first | rfl | omega | exact lt_new _ | assumption | decide | (simp [tk_here, tk_app, tk_0, tk_S, gr_here, gr_app, gr_0, gr_S] <;> omega) | fail) only [l57_21, r57_17, r57_18, r57_19, r57_20, loadV_ptr, storeV_ptr, List.append_assoc, List.length_append, List.length_cons, List.length_nil, List.set_cons_zero, List.set_cons_succ, tk_here, tk_app, gr_here, gr_app, st_here, st_app, t1, t73, t74, t75, t3, hlt', ld, hf, go_sem, ↓reduceIte, Nat.reduceLT, Nat.reduceEqDiff, Nat.reduceAdd, Nat.reduceMul, Nat.reduceSub, Int.reduceAdd, Int.reduceSub, Nat.reduceLeDiff, Int.reduceLT, Int.reduceLE, Int.reduceEq, Int.reduceNeg, Int.reduceToNat]
            repeat' ((first | refine guardB_dec (fun hy => ?_) (fun hy => ?_) | refine guardB_bool (fun hy => ?_) (fun hy => ?_) | refine guardQ_ite (fun hy => ?_) (fun hy => ?_) | refine brQ_dec (fun hy => ?_) (fun hy => ?_) | refine brQ_bool (fun hy => ?_) (fun hy => ?_)) <;> (try simp only [Bool.not_eq_true', Bool.not_eq_false', Bool.and_eq_true, Bool.or_eq_false_iff, decide_eq_true_eq, decide_eq_false_iff_not] at hy) <;> simp (disch := first | rfl | omega | exact lt_new _ | assumption | decide | (simp [tk_here, tk_app, tk_0, tk_S, gr_here, gr_app, gr_0, gr_S] <;> omega) | fail) only [l57_21, r57_17, r57_18, r57_19, r57_20, loadV_ptr, storeV_ptr, List.append_assoc, List.length_append, List.length_cons, List.length_nil, List.set_cons_zero, List.set_cons_succ, tk_here, tk_app, gr_here, gr_app, st_here, st_app, t1, t73, t74, t75, t3, hlt', ld, hf, go_sem, ↓reduceIte, Nat.reduceLT, Nat.reduceEqDiff, Nat.reduceAdd, Nat.reduceMul, Nat.reduceSub, Int.reduceAdd, Int.reduceSub, Nat.reduceLeDiff, Int.reduceLT, Int.reduceLE, Int.reduceEq, Int.reduceNeg, Int.reduceToNat, hy])
            all_goals exact ⟨_, by omega, i + 1, _, rfl, hlt, rfl, rfl, by rw [hw]; simp [hy]⟩
          · obtain rfl : i = c.secrets.length := by omega
            rw [List.take_length] at t3
            obtain ⟨v3, hv3⟩ : ∃ v, (v2 || c.secrets.any fun x => !scB x) = v := ⟨_, rfl⟩
            rw [hv3] at t3
            simp (disch := first | rfl | omega | exact lt_new _ | assumption | decide | (simp [tk_here, tk_app, tk_0, tk_S, gr_here, gr_app, gr_0, gr_S] <;> omega) | fail) only [l57_21, r57_17, r57_22, loadV_ptr, storeV_ptr, List.append_assoc, List.length_append, List.length_cons, List.length_nil, List.set_cons_zero, List.set_cons_succ, tk_here, tk_app, gr_here, gr_app, st_here, st_app, t1, t73, t74, t75, t3, Int.lt_irrefl, go_sem, ↓reduceIte, Nat.reduceLT, Nat.reduceEqDiff, Nat.reduceAdd, Nat.reduceMul, Nat.reduceSub, Int.reduceAdd, Int.reduceSub, Nat.reduceLeDiff, Int.reduceLT, Int.reduceLE, Int.reduceEq, Int.reduceNeg, Int.reduceToNat]
            repeat' ((first | refine guardB_dec (fun hy => ?_) (fun hy => ?_) | refine guardB_bool (fun hy => ?_) (fun hy => ?_) | refine guardQ_ite (fun hy => ?_) (fun hy => ?_) | refine brQ_dec (fun hy => ?_) (fun hy => ?_) | refine brQ_bool (fun hy => ?_) (fun hy => ?_)) <;> (try simp only [Bool.not_eq_true', Bool.not_eq_false', Bool.and_eq_true, Bool.or_eq_false_iff, decide_eq_true_eq, decide_eq_false_iff_not] at hy) <;> simp (disch := first | rfl | omega | exact lt_new _ | assumption | decide | (simp [tk_here, tk_app, tk_0, tk_S, gr_here, gr_app, gr_0, gr_S] <;> omega) | fail) only [l57_21, r57_17, r57_22, loadV_ptr, storeV_ptr, List.append_assoc, List.length_append, List.length_cons, List.length_nil, List.set_cons_zero, List.set_cons_succ, tk_here, tk_app, gr_here, gr_app, st_here, st_app, t1, t73, t74, t75, t3, Int.lt_irrefl, go_sem, ↓reduceIte, Nat.reduceLT, Nat.reduceEqDiff, Nat.reduceAdd, Nat.reduceMul, Nat.reduceSub, Int.reduceAdd, Int.reduceSub, Nat.reduceLeDiff, Int.reduceLT, Int.reduceLE, Int.reduceEq, Int.reduceNeg, Int.reduceToNat, hy])
            refine Wp_loop (fun m T D H' => ∃ i G, m = c.packets.length - i ∧ i ≤ c.packets.length ∧ D = [] ∧ H' = H ++ .row 0 (cpE.f c) true :: G ∧ get T 1 = .ptr H.length 0 0 ∧ get T 87 = slV c.packetsN pkE c.packets ∧ get T 88 = .int .i64 c.packets.length ∧ get T 89 = .int .i64 i ∧ get T 3 = .bool (v3 || (c.packets.take i).any fun x => !pfB x c.faces)) ?_ c.packets.length _ _ _ ?_
            case refine_2 =>
              refine ⟨0, _, rfl, by omega, rfl, rfl, ?_, ?_, ?_, ?_, ?_⟩
              all_goals simp (disch := first | rfl | omega | exact lt_new _ | assumption | decide | (simp [tk_here, tk_app, tk_0, tk_S, gr_here, gr_app, gr_0, gr_S] <;> omega) | fail) only [go_sem, ↓reduceIte, Nat.reduceLT, Nat.reduceEqDiff, Nat.reduceAdd, Nat.reduceMul, Nat.reduceSub, Int.reduceAdd, Int.reduceSub, Nat.reduceLeDiff, Int.reduceLT, Int.reduceLE, Int.reduceEq, Int.reduceNeg, Int.reduceToNat, t1, t3]
              all_goals first | rfl | (simp; done)
            clear t1 t3 t73 t74 t75
            rintro m T D H' ⟨i, G, rfl, hi, rfl, rfl, t1, t87, t88, t89, t3⟩
            by_cases hlt : i < c.packets.length
            · have hlt' : (i : Int) < c.packets.length := by omega
              have hw := any_take pkE hlt (fun x => !pfB x c.faces) v3
              obtain ⟨w1, hw1⟩ : ∃ w1, (v3 || (c.packets.take i).any fun x => !pfB x c.faces) = w1 := ⟨_, rfl⟩
              rw [hw1] at t3 hw
              have ld := fun H => ldP (H := H) hlt
              have hf := h110 i hlt
              simp (disch := first | rfl | omega | exact lt_new _ | assumption | decide | (simp [tk_here, tk_app, tk_0, tk_S, gr_here, gr_app, gr_0, gr_S] <;> omega) | fail) only [l57_27, r57_23, r57_24, r57_25, r57_26, loadV_ptr, storeV_ptr, List.append_assoc, List.length_append, List.length_cons, List.length_nil, List.set_cons_zero, List.set_cons_succ, tk_here, tk_app, gr_here, gr_app, st_here, st_app, t1, t87, t88, t89, t3, hlt', ld, hf, go_sem, ↓reduceIte, Nat.reduceLT, Nat.reduceEqDiff, Nat.reduceAdd, Nat.reduceMul, Nat.reduceSub, Int.reduceAdd, Int.reduceSub, Nat.reduceLeDiff, Int.reduceLT, Int.reduceLE, Int.reduceEq, Int.reduceNeg, Int.reduceToNat]
              repeat' ((first | refine guardB_dec (fun hy => ?_) (fun hy => ?_) | refine guardB_bool (fun hy => ?_) (fun hy => ?_) | refine guardQ_ite (fun hy => ?_) (fun hy => ?_) | refine brQ_dec (fun hy => ?_) (fun hy => ?_) | refine brQ_bool (fun hy => ?_) (fun hy => ?_)) <;> (try simp only [Bool.not_eq_true', Bool.not_eq_false', Bool.and_eq_true, Bool.or_eq_false_iff, decide_eq_true_eq, decide_eq_false_iff_not] at hy) <;> simp (disch := first | rfl | omega | exact lt_new _ | assumption | decide | (simp [tk_here, tk_app, tk_0, tk_S, gr_here, gr_app, gr_0, gr_S] <;> omega) | fail) only [l57_27, r57_23, r57_24, r57_25, r57_26, loadV_ptr, storeV_ptr, List.append_assoc, List.length_append, List.length_cons, List.length_nil, List.set_cons_zero, List.set_cons_succ, tk_here, tk_app, gr_here, gr_app, st_here, st_app, t1, t87, t88, t89, t3, hlt', ld, hf, go_sem, ↓reduceIte, Nat.reduceLT, Nat.reduceEqDiff, Nat.reduceAdd, Nat.reduceMul, Nat.reduceSub, Int.reduceAdd, Int.reduceSub, Nat.reduceLeDiff, Int.reduceLT, Int.reduceLE, Int.reduceEq, Int.reduceNeg, Int.reduceToNat, hy])
              all_goals exact ⟨_, by omega, i + 1, _, rfl, hlt, rfl, rfl, by rw [hw]; simp [hy]⟩
            · obtain rfl : i = c.packets.length := by omega
              rw [List.take_length] at t3
              obtain ⟨v4, hv4⟩ : ∃ v, (v3 || c.packets.any fun x => !pfB x c.faces) = v := ⟨_, rfl⟩
              have hwr : wrongB c = v4 := by unfold wrongB; rw [hw0, hv1, hv2, hv3, hv4]
              rw [hv4] at t3
              rw [hwr]
              simp (disch := first | rfl | omega | exact lt_new _ | assumption | decide | (simp [tk_here, tk_app, tk_0, tk_S, gr_here, gr_app, gr_0, gr_S] <;> omega) | fail) only [l57_27, r57_23, r57_28, r57_29, r57_30, rs57, gc57, loadV_ptr, storeV_ptr, List.append_assoc, List.length_append, List.length_cons, List.length_nil, List.set_cons_zero, List.set_cons_succ, tk_here, tk_app, gr_here, gr_app, st_here, st_app, t1, t87, t88, t89, t3, Int.lt_irrefl, go_sem, ↓reduceIte, Nat.reduceLT, Nat.reduceEqDiff, Nat.reduceAdd, Nat.reduceMul, Nat.reduceSub, Int.reduceAdd, Int.reduceSub, Nat.reduceLeDiff, Int.reduceLT, Int.reduceLE, Int.reduceEq, Int.reduceNeg, Int.reduceToNat]
              repeat' ((first | refine guardB_dec (fun hy => ?_) (fun hy => ?_) | refine guardB_bool (fun hy => ?_) (fun hy => ?_) | refine guardQ_ite (fun hy => ?_) (fun hy => ?_) | refine brQ_dec (fun hy => ?_) (fun hy => ?_) | refine brQ_bool (fun hy => ?_) (fun hy => ?_)) <;> (try simp only [Bool.not_eq_true', Bool.not_eq_false', Bool.and_eq_true, Bool.or_eq_false_iff, decide_eq_true_eq, decide_eq_false_iff_not] at hy) <;> simp (disch := first | rfl | omega | exact lt_new _ | assumption | decide | (simp [tk_here, tk_app, tk_0, tk_S, gr_here, gr_app, gr_0, gr_S] <;> omega) | fail) only [l57_27, r57_23, r57_28, r57_29, r57_30, rs57, gc57, loadV_ptr, storeV_ptr, List.append_assoc, List.length_append, List.length_cons, List.length_nil, List.set_cons_zero, List.set_cons_succ, tk_here, tk_app, gr_here, gr_app, st_here, st_app, t1, t87, t88, t89, t3, Int.lt_irrefl, go_sem, ↓reduceIte, Nat.reduceLT, Nat.reduceEqDiff, Nat.reduceAdd, Nat.reduceMul, Nat.reduceSub, Int.reduceAdd, Int.reduceSub, Nat.reduceLeDiff, Int.reduceLT, Int.reduceLE, Int.reduceEq, Int.reduceNeg, Int.reduceToNat, hy])
              all_goals (refine finQ_app ?_; simp (disch := first | rfl | omega | exact lt_new _ | assumption | decide | (simp [tk_here, tk_app, tk_0, tk_S, gr_here, gr_app, gr_0, gr_S] <;> omega) | fail) only [go_sem, ↓reduceIte, Nat.reduceLT, Nat.reduceEqDiff, Nat.reduceAdd, Nat.reduceMul, Nat.reduceSub, Int.reduceAdd, Int.reduceSub, Nat.reduceLeDiff, Int.reduceLT, Int.reduceLE, Int.reduceEq, Int.reduceNeg, Int.reduceToNat, hy])
end Go.Proofs.Ytejkgnmjdaohdaa
/-
  Validate of the reference, walked. No statement of the seat stands here.
-/
namespace Go.Proofs.Ytejkgnmjdaohdaa
open Go Go.An
set_option maxRecDepth 4000
set_option linter.unusedSimpArgs false
set_option linter.unusedVariables false

theorem ix_str {l : List UInt8} {i : Nat} (h : i < l.length) : indexV Try.prog 9 (.str l) (.int .i64 i) = some (.int .u8 (byE.at l i).toNat) := by
  simp [indexV, u9, byE.at_some h]
theorem fn149 (s : List UInt8) (hs : s.length ≤ 2 ^ 62) (H : Hp) : callL Try.prog pr 149 [.str s] H = some (.bool (txB s), H) := by
  have hl : ∀ H, lenV Try.prog 9 H (.str s) = some (.int .i64 s.length) := fun H => by simp [lenV, u9, hs]
  refine run149 (Nat.le_of_ble_eq_true rfl) ?_
  simp (disch := first | rfl | omega | exact lt_new _ | assumption | decide | (simp [tk_here, tk_app, tk_0, tk_S, gr_here, gr_app, gr_0, gr_S] <;> omega) | fail) only [r149_0, r149_1, r149_2, r149_3, r149_4, r149_5, r149_7, c149, rs149, gc149, go_sem, ↓reduceIte, Nat.reduceLT, Nat.reduceEqDiff, Nat.reduceAdd, Nat.reduceMul, Nat.reduceSub, Int.reduceAdd, Int.reduceSub, Nat.reduceLeDiff, Int.reduceLT, Int.reduceLE, Int.reduceEq, Int.reduceNeg, Int.reduceToNat]
  refine Wp_loop (fun m T D H' => ∃ i, m = s.length - i ∧ i ≤ s.length ∧ D = [] ∧ H' = H ∧ get T 0 = .str s ∧ get T 3 = .int .i64 i ∧ (s.take i).any badC = false) ?_ s.length _ _ _ ?_
  · rintro m T D H' ⟨i, rfl, hi, rfl, rfl, t0, t3, hb⟩
    by_cases hlt : i < s.length
    · have hlt' : (i : Int) < s.length := by omega
      have hx := ix_str hlt
      obtain ⟨c, hc⟩ : ∃ c, byE.at s i = c := ⟨_, rfl⟩
      rw [hc] at hx
      by_cases hq : badC c = true
      · have hF : txB s = false := by unfold txB; rw [any_mem byE hlt (by rw [hc]; exact hq)]; simp
        have hq2 : ¬ (c.toNat : Int) < 32 → (126 : Int) < c.toNat := by
          unfold badC at hq; simp at hq; omega
        simp (disch := first | rfl | omega | exact lt_new _ | assumption | decide | (simp [tk_here, tk_app, tk_0, tk_S, gr_here, gr_app, gr_0, gr_S] <;> omega) | fail) only [r149_0, r149_1, r149_2, r149_3, r149_4, r149_5, l149_6, r149_7, c149, rs149, gc149, t0, t3, hl, hlt', hx, hF, hq2, go_sem, ↓reduceIte, Nat.reduceLT, Nat.reduceEqDiff, Nat.reduceAdd, Nat.reduceMul, Nat.reduceSub, Int.reduceAdd, Int.reduceSub, Nat.reduceLeDiff, Int.reduceLT, Int.reduceLE, Int.reduceEq, Int.reduceNeg, Int.reduceToNat]
        repeat' ((first | refine guardB_dec (fun hy => ?_) (fun hy => ?_) | refine guardB_bool (fun hy => ?_) (fun hy => ?_) | refine guardQ_ite (fun hy => ?_) (fun hy => ?_) | refine brQ_dec (fun hy => ?_) (fun hy => ?_) | refine brQ_bool (fun hy => ?_) (fun hy => ?_)) <;> (try simp only [Bool.not_eq_true', Bool.not_eq_false', Bool.and_eq_true, Bool.or_eq_false_iff, decide_eq_true_eq, decide_eq_false_iff_not] at hy) <;> simp (disch := first | rfl | omega | exact lt_new _ | assumption | decide | (simp [tk_here, tk_app, tk_0, tk_S, gr_here, gr_app, gr_0, gr_S] <;> omega) | fail) only [r149_0, r149_1, r149_2, r149_3, r149_4, r149_5, l149_6, r149_7, c149, rs149, gc149, t0, t3, hl, hlt', hx, hF, hq2, go_sem, ↓reduceIte, Nat.reduceLT, Nat.reduceEqDiff, Nat.reduceAdd, Nat.reduceMul, Nat.reduceSub, Int.reduceAdd, Int.reduceSub, Nat.reduceLeDiff, Int.reduceLT, Int.reduceLE, Int.reduceEq, Int.reduceNeg, Int.reduceToNat, hy])
        all_goals (refine finQ_same ?_; simp (disch := first | rfl | omega | exact lt_new _ | assumption | decide | (simp [tk_here, tk_app, tk_0, tk_S, gr_here, gr_app, gr_0, gr_S] <;> omega) | fail) only [go_sem, ↓reduceIte, Nat.reduceLT, Nat.reduceEqDiff, Nat.reduceAdd, Nat.reduceMul, Nat.reduceSub, Int.reduceAdd, Int.reduceSub, Nat.reduceLeDiff, Int.reduceLT, Int.reduceLE, Int.reduceEq, Int.reduceNeg, Int.reduceToNat])
      · have hn := any_none byE hlt hb (by rw [hc]; simpa using hq)
        have hq1 : ¬ (c.toNat : Int) < 32 := by unfold badC at hq; simp at hq; omega
        have hq2 : ¬ (126 : Int) < c.toNat := by unfold badC at hq; simp at hq; omega
        simp (disch := first | rfl | omega | exact lt_new _ | assumption | decide | (simp [tk_here, tk_app, tk_0, tk_S, gr_here, gr_app, gr_0, gr_S] <;> omega) | fail) only [r149_0, r149_1, r149_2, r149_3, r149_4, r149_5, l149_6, r149_7, c149, rs149, gc149, t0, t3, hl, hlt', hx, hq1, hq2, go_sem, ↓reduceIte, Nat.reduceLT, Nat.reduceEqDiff, Nat.reduceAdd, Nat.reduceMul, Nat.reduceSub, Int.reduceAdd, Int.reduceSub, Nat.reduceLeDiff, Int.reduceLT, Int.reduceLE, Int.reduceEq, Int.reduceNeg, Int.reduceToNat]
        repeat' ((first | refine guardB_dec (fun hy => ?_) (fun hy => ?_) | refine guardB_bool (fun hy => ?_) (fun hy => ?_) | refine guardQ_ite (fun hy => ?_) (fun hy => ?_) | refine brQ_dec (fun hy => ?_) (fun hy => ?_) | refine brQ_bool (fun hy => ?_) (fun hy => ?_)) <;> (try simp only [Bool.not_eq_true', Bool.not_eq_false', Bool.and_eq_true, Bool.or_eq_false_iff, decide_eq_true_eq, decide_eq_false_iff_not] at hy) <;> simp (disch := first | rfl | omega | exact lt_new _ | assumption | decide | (simp [tk_here, tk_app, tk_0, tk_S, gr_here, gr_app, gr_0, gr_S] <;> omega) | fail) only [r149_0, r149_1, r149_2, r149_3, r149_4, r149_5, l149_6, r149_7, c149, rs149, gc149, t0, t3, hl, hlt', hx, hq1, hq2, go_sem, ↓reduceIte, Nat.reduceLT, Nat.reduceEqDiff, Nat.reduceAdd, Nat.reduceMul, Nat.reduceSub, Int.reduceAdd, Int.reduceSub, Nat.reduceLeDiff, Int.reduceLT, Int.reduceLE, Int.reduceEq, Int.reduceNeg, Int.reduceToNat, hy])
        exact ⟨_, by omega, i + 1, rfl, hlt, rfl, hn⟩
    · obtain rfl : i = s.length := by omega
      rw [List.take_length] at hb
      have e1 : ((s.length : Int) ≤ 200) = (s.length ≤ 200) := by simp; omega
      simp (disch := first | rfl | omega | exact lt_new _ | assumption | decide | (simp [tk_here, tk_app, tk_0, tk_S, gr_here, gr_app, gr_0, gr_S] <;> omega) | fail) only [r149_0, r149_1, r149_2, r149_3, r149_4, r149_5, l149_6, r149_7, c149, rs149, gc149, t0, t3, hl, Int.lt_irrefl, go_sem, ↓reduceIte, Nat.reduceLT, Nat.reduceEqDiff, Nat.reduceAdd, Nat.reduceMul, Nat.reduceSub, Int.reduceAdd, Int.reduceSub, Nat.reduceLeDiff, Int.reduceLT, Int.reduceLE, Int.reduceEq, Int.reduceNeg, Int.reduceToNat]
      repeat' ((first | refine guardB_dec (fun hy => ?_) (fun hy => ?_) | refine guardB_bool (fun hy => ?_) (fun hy => ?_) | refine guardQ_ite (fun hy => ?_) (fun hy => ?_) | refine brQ_dec (fun hy => ?_) (fun hy => ?_) | refine brQ_bool (fun hy => ?_) (fun hy => ?_)) <;> (try simp only [Bool.not_eq_true', Bool.not_eq_false', Bool.and_eq_true, Bool.or_eq_false_iff, decide_eq_true_eq, decide_eq_false_iff_not] at hy) <;> simp (disch := first | rfl | omega | exact lt_new _ | assumption | decide | (simp [tk_here, tk_app, tk_0, tk_S, gr_here, gr_app, gr_0, gr_S] <;> omega) | fail) only [r149_0, r149_1, r149_2, r149_3, r149_4, r149_5, l149_6, r149_7, c149, rs149, gc149, t0, t3, hl, Int.lt_irrefl, go_sem, ↓reduceIte, Nat.reduceLT, Nat.reduceEqDiff, Nat.reduceAdd, Nat.reduceMul, Nat.reduceSub, Int.reduceAdd, Int.reduceSub, Nat.reduceLeDiff, Int.reduceLT, Int.reduceLE, Int.reduceEq, Int.reduceNeg, Int.reduceToNat, hy])
      refine finQ_same ?_
      simp (disch := first | rfl | omega | exact lt_new _ | assumption | decide | (simp [tk_here, tk_app, tk_0, tk_S, gr_here, gr_app, gr_0, gr_S] <;> omega) | fail) only [go_sem, ↓reduceIte, Nat.reduceLT, Nat.reduceEqDiff, Nat.reduceAdd, Nat.reduceMul, Nat.reduceSub, Int.reduceAdd, Int.reduceSub, Nat.reduceLeDiff, Int.reduceLT, Int.reduceLE, Int.reduceEq, Int.reduceNeg, Int.reduceToNat, txB, hb, e1]
  · exact ⟨0, by simp [go_sem]⟩
theorem fn150 (p : Pk) (hp : PkOk p) (snap : Int) (H : Hp) : callL Try.prog pr 150 [.agg (pkE.f p), .int .i64 snap] H = some (.bool (pkB p snap), H) := by
  have h149 := fn149 p.note (by have := hp.2.2.2.2; omega)
  have hl := hp.2.2.2.1
  refine run150 (Nat.le_of_ble_eq_true rfl) ?_
  unfold pkB
  simp (disch := first | rfl | omega | exact lt_new _ | assumption | decide | (simp [tk_here, tk_app, tk_0, tk_S, gr_here, gr_app, gr_0, gr_S] <;> omega) | fail) only [r150_0, r150_1, r150_2, r150_3, c150, rs150, gc150, h149, go_sem, ↓reduceIte, Nat.reduceLT, Nat.reduceEqDiff, Nat.reduceAdd, Nat.reduceMul, Nat.reduceSub, Int.reduceAdd, Int.reduceSub, Nat.reduceLeDiff, Int.reduceLT, Int.reduceLE, Int.reduceEq, Int.reduceNeg, Int.reduceToNat]
  repeat' ((first | refine guardB_dec (fun hy => ?_) (fun hy => ?_) | refine guardB_bool (fun hy => ?_) (fun hy => ?_) | refine guardQ_ite (fun hy => ?_) (fun hy => ?_) | refine brQ_dec (fun hy => ?_) (fun hy => ?_) | refine brQ_bool (fun hy => ?_) (fun hy => ?_)) <;> (try simp only [Bool.not_eq_true', Bool.not_eq_false', Bool.and_eq_true, Bool.or_eq_false_iff, decide_eq_true_eq, decide_eq_false_iff_not] at hy) <;> simp (disch := first | rfl | omega | exact lt_new _ | assumption | decide | (simp [tk_here, tk_app, tk_0, tk_S, gr_here, gr_app, gr_0, gr_S] <;> omega) | fail) only [r150_0, r150_1, r150_2, r150_3, c150, rs150, gc150, h149, go_sem, ↓reduceIte, Nat.reduceLT, Nat.reduceEqDiff, Nat.reduceAdd, Nat.reduceMul, Nat.reduceSub, Int.reduceAdd, Int.reduceSub, Nat.reduceLeDiff, Int.reduceLT, Int.reduceLE, Int.reduceEq, Int.reduceNeg, Int.reduceToNat, hy])
  all_goals (try ((first | refine finQ_same ?_ | refine finQ_app ?_ | (rw [List.append_assoc]; refine finQ_app ?_)) <;> simp (disch := first | rfl | omega | exact lt_new _ | assumption | decide | (simp [tk_here, tk_app, tk_0, tk_S, gr_here, gr_app, gr_0, gr_S] <;> omega) | fail) only [go_sem, ↓reduceIte, Nat.reduceLT, Nat.reduceEqDiff, Nat.reduceAdd, Nat.reduceMul, Nat.reduceSub, Int.reduceAdd, Int.reduceSub, Nat.reduceLeDiff, Int.reduceLT, Int.reduceLE, Int.reduceEq, Int.reduceNeg, Int.reduceToNat, List.append_assoc, List.cons_append, List.nil_append, *]))
  all_goals (try first | rfl | (simp [*]; done) | grind)
set_option maxHeartbeats 8000000 in
theorem fn113 (c : Cp) (hc : CpOk c) (H : Hp) : callL Try.prog pr 113 [.agg (cpE.f c)] H = some (.bool (!wrongB c), H) := by
  obtain ⟨o0, o1, o1l, o2, o2l, o3, o3l, o4, o4l⟩ := hc
  have h149 := fn149 c.note (by omega)
  have hwr : ∀ {b : Bool}, wrongB c = b → (!wrongB c) = !b := fun h => by rw [h]
  refine run113 (Nat.le_of_ble_eq_true rfl) ?_
  by_cases h0 : txB c.note = true ∧ ¬ (c.faces.length : Int) < 1
  case neg =>
    have hW : wrongB c = true := by
      unfold wrongB
      by_cases h1 : txB c.note = true
      · have : (c.faces.length : Int) = 0 := by have : ¬ ¬ (c.faces.length : Int) < 1 := fun h => h0 ⟨h1, h⟩; omega
        simp only [this, decide_true, Bool.true_or]
      · simp [h1]
    have h1 : txB c.note = true → (c.faces.length : Int) < 1 := fun h => by
      by_cases h2 : (c.faces.length : Int) < 1
      · exact h2
      · exact absurd ⟨h, h2⟩ h0
    simp (disch := first | rfl | omega | exact lt_new _ | assumption | decide | (simp [tk_here, tk_app, tk_0, tk_S, gr_here, gr_app, gr_0, gr_S] <;> omega) | fail) only [r113_0, r113_1, r113_2, c113, rs113, gc113, loadV_ptr, storeV_ptr, List.append_assoc, List.length_append, List.length_cons, List.length_nil, List.set_cons_zero, List.set_cons_succ, tk_here, tk_app, gr_here, gr_app, st_here, st_app, h149, h1, go_sem, ↓reduceIte, Nat.reduceLT, Nat.reduceEqDiff, Nat.reduceAdd, Nat.reduceMul, Nat.reduceSub, Int.reduceAdd, Int.reduceSub, Nat.reduceLeDiff, Int.reduceLT, Int.reduceLE, Int.reduceEq, Int.reduceNeg, Int.reduceToNat]
    repeat' ((first | refine guardB_dec (fun hy => ?_) (fun hy => ?_) | refine guardB_bool (fun hy => ?_) (fun hy => ?_) | refine guardQ_ite (fun hy => ?_) (fun hy => ?_) | refine brQ_dec (fun hy => ?_) (fun hy => ?_) | refine brQ_bool (fun hy => ?_) (fun hy => ?_)) <;> (try simp only [Bool.not_eq_true', Bool.not_eq_false', Bool.and_eq_true, Bool.or_eq_false_iff, decide_eq_true_eq, decide_eq_false_iff_not] at hy) <;> simp (disch := first | rfl | omega | exact lt_new _ | assumption | decide | (simp [tk_here, tk_app, tk_0, tk_S, gr_here, gr_app, gr_0, gr_S] <;> omega) | fail) only [r113_0, r113_1, r113_2, c113, rs113, gc113, loadV_ptr, storeV_ptr, List.append_assoc, List.length_append, List.length_cons, List.length_nil, List.set_cons_zero, List.set_cons_succ, tk_here, tk_app, gr_here, gr_app, st_here, st_app, h149, h1, go_sem, ↓reduceIte, Nat.reduceLT, Nat.reduceEqDiff, Nat.reduceAdd, Nat.reduceMul, Nat.reduceSub, Int.reduceAdd, Int.reduceSub, Nat.reduceLeDiff, Int.reduceLT, Int.reduceLE, Int.reduceEq, Int.reduceNeg, Int.reduceToNat, hy])
    all_goals (refine finQ_app ?_; simp (disch := first | rfl | omega | exact lt_new _ | assumption | decide | (simp [tk_here, tk_app, tk_0, tk_S, gr_here, gr_app, gr_0, gr_S] <;> omega) | fail) only [go_sem, ↓reduceIte, Nat.reduceLT, Nat.reduceEqDiff, Nat.reduceAdd, Nat.reduceMul, Nat.reduceSub, Int.reduceAdd, Int.reduceSub, Nat.reduceLeDiff, Int.reduceLT, Int.reduceLE, Int.reduceEq, Int.reduceNeg, Int.reduceToNat, hW])
  obtain ⟨h1, h2⟩ := h0
  simp (disch := first | rfl | omega | exact lt_new _ | assumption | decide | (simp [tk_here, tk_app, tk_0, tk_S, gr_here, gr_app, gr_0, gr_S] <;> omega) | fail) only [r113_0, r113_1, r113_3, c113, loadV_ptr, storeV_ptr, List.append_assoc, List.length_append, List.length_cons, List.length_nil, List.set_cons_zero, List.set_cons_succ, tk_here, tk_app, gr_here, gr_app, st_here, st_app, h149, h1, h2, go_sem, ↓reduceIte, Nat.reduceLT, Nat.reduceEqDiff, Nat.reduceAdd, Nat.reduceMul, Nat.reduceSub, Int.reduceAdd, Int.reduceSub, Nat.reduceLeDiff, Int.reduceLT, Int.reduceLE, Int.reduceEq, Int.reduceNeg, Int.reduceToNat]
  repeat' ((first | refine guardB_dec (fun hy => ?_) (fun hy => ?_) | refine guardB_bool (fun hy => ?_) (fun hy => ?_) | refine guardQ_ite (fun hy => ?_) (fun hy => ?_) | refine brQ_dec (fun hy => ?_) (fun hy => ?_) | refine brQ_bool (fun hy => ?_) (fun hy => ?_)) <;> (try simp only [Bool.not_eq_true', Bool.not_eq_false', Bool.and_eq_true, Bool.or_eq_false_iff, decide_eq_true_eq, decide_eq_false_iff_not] at hy) <;> simp (disch := first | rfl | omega | exact lt_new _ | assumption | decide | (simp [tk_here, tk_app, tk_0, tk_S, gr_here, gr_app, gr_0, gr_S] <;> omega) | fail) only [r113_0, r113_1, r113_3, c113, loadV_ptr, storeV_ptr, List.append_assoc, List.length_append, List.length_cons, List.length_nil, List.set_cons_zero, List.set_cons_succ, tk_here, tk_app, gr_here, gr_app, st_here, st_app, h149, h1, h2, go_sem, ↓reduceIte, Nat.reduceLT, Nat.reduceEqDiff, Nat.reduceAdd, Nat.reduceMul, Nat.reduceSub, Int.reduceAdd, Int.reduceSub, Nat.reduceLeDiff, Int.reduceLT, Int.reduceLE, Int.reduceEq, Int.reduceNeg, Int.reduceToNat, hy])
  refine Wp_loop (fun m T D H' => ∃ i G, m = c.faces.length - i ∧ i ≤ c.faces.length ∧ D = [] ∧ H' = H ++ .row 0 (cpE.f c) true :: G ∧ get T 1 = .ptr H.length 0 0 ∧ get T 3 = .int .i64 i ∧ (c.faces.take i).any (fun x => !fcB x) = false) ?_ c.faces.length _ _ _ ?_
  case refine_2 =>
    refine ⟨0, _, rfl, by omega, rfl, rfl, ?_, ?_, rfl⟩
    all_goals simp (disch := first | rfl | omega | exact lt_new _ | assumption | decide | (simp [tk_here, tk_app, tk_0, tk_S, gr_here, gr_app, gr_0, gr_S] <;> omega) | fail) only [go_sem, ↓reduceIte, Nat.reduceLT, Nat.reduceEqDiff, Nat.reduceAdd, Nat.reduceMul, Nat.reduceSub, Int.reduceAdd, Int.reduceSub, Nat.reduceLeDiff, Int.reduceLT, Int.reduceLE, Int.reduceEq, Int.reduceNeg, Int.reduceToNat]
    all_goals first | rfl | (simp; done)
  rintro m T D H' ⟨i, G, rfl, hi, rfl, rfl, t1, tt, hb⟩
  by_cases hlt : i < c.faces.length
  · have hlt' : (i : Int) < c.faces.length := by omega
    have ld := fun H => ldF (H := H) hlt
    have hmem := fcE.at_mem hlt
    obtain ⟨x, hx⟩ : ∃ x, fcE.at c.faces i = x := ⟨_, rfl⟩
    rw [hx] at ld hmem
    have hs1 := fn149 x.name (by have := (o1 _ hmem).1; omega)
    by_cases hq : fcB x = true
    · have hn := any_none fcE hlt hb (by rw [hx]; simp [hq])
      obtain ⟨⟨⟨⟨g1, g2⟩, g3⟩, g4⟩, g5⟩ : (((txB x.name = true ∧ 0 ≤ x.link) ∧ x.link ≤ 65535) ∧ 0 ≤ x.snap) ∧ x.snap ≤ 400 := by simpa [fcB] using hq
      have n2 : ¬ x.link < 0 := by omega
      have n3 : ¬ 65535 < x.link := by omega
      have n4 : ¬ x.snap < 0 := by omega
      have n5 : ¬ 400 < x.snap := by omega
      simp (disch := first | rfl | omega | exact lt_new _ | assumption | decide | (simp [tk_here, tk_app, tk_0, tk_S, gr_here, gr_app, gr_0, gr_S] <;> omega) | fail) only [l113_9, r113_4, r113_5, r113_6, r113_8, loadV_ptr, storeV_ptr, List.append_assoc, List.length_append, List.length_cons, List.length_nil, List.set_cons_zero, List.set_cons_succ, tk_here, tk_app, gr_here, gr_app, st_here, st_app, t1, tt, hlt', ld, hs1, g1, n2, n3, n4, n5, go_sem, ↓reduceIte, Nat.reduceLT, Nat.reduceEqDiff, Nat.reduceAdd, Nat.reduceMul, Nat.reduceSub, Int.reduceAdd, Int.reduceSub, Nat.reduceLeDiff, Int.reduceLT, Int.reduceLE, Int.reduceEq, Int.reduceNeg, Int.reduceToNat]
      repeat' ((first | refine guardB_dec (fun hy => ?_) (fun hy => ?_) | refine guardB_bool (fun hy => ?_) (fun hy => ?_) | refine guardQ_ite (fun hy => ?_) (fun hy => ?_) | refine brQ_dec (fun hy => ?_) (fun hy => ?_) | refine brQ_bool (fun hy => ?_) (fun hy => ?_)) <;> (try simp only [Bool.not_eq_true', Bool.not_eq_false', Bool.and_eq_true, Bool.or_eq_false_iff, decide_eq_true_eq, decide_eq_false_iff_not] at hy) <;> simp (disch := first | rfl | omega | exact lt_new _ | assumption | decide | (simp [tk_here, tk_app, tk_0, tk_S, gr_here, gr_app, gr_0, gr_S] <;> omega) | fail) only [l113_9, r113_4, r113_5, r113_6, r113_8, loadV_ptr, storeV_ptr, List.append_assoc, List.length_append, List.length_cons, List.length_nil, List.set_cons_zero, List.set_cons_succ, tk_here, tk_app, gr_here, gr_app, st_here, st_app, t1, tt, hlt', ld, hs1, g1, n2, n3, n4, n5, go_sem, ↓reduceIte, Nat.reduceLT, Nat.reduceEqDiff, Nat.reduceAdd, Nat.reduceMul, Nat.reduceSub, Int.reduceAdd, Int.reduceSub, Nat.reduceLeDiff, Int.reduceLT, Int.reduceLE, Int.reduceEq, Int.reduceNeg, Int.reduceToNat, hy])
      exact ⟨_, by omega, i + 1, _, rfl, hlt, rfl, rfl, hn⟩
    · have hW : wrongB c = true := by unfold wrongB; rw [any_mem fcE (q := fun x => !fcB x) hlt (by rw [hx]; simp [hq])]; simp
      have n5 : txB x.name = true → ¬ x.link < 0 → ¬ 65535 < x.link → ¬ x.snap < 0 → 400 < x.snap := fun a b c d => by
        by_cases e : 400 < x.snap
        · exact e
        · exact absurd (by simp [fcB, a]; omega) hq
      simp (disch := first | rfl | omega | exact lt_new _ | assumption | decide | (simp [tk_here, tk_app, tk_0, tk_S, gr_here, gr_app, gr_0, gr_S] <;> omega) | fail) only [l113_9, r113_4, r113_5, r113_6, r113_8, r113_7, rs113, gc113, loadV_ptr, storeV_ptr, List.append_assoc, List.length_append, List.length_cons, List.length_nil, List.set_cons_zero, List.set_cons_succ, tk_here, tk_app, gr_here, gr_app, st_here, st_app, t1, tt, hlt', ld, hs1, n5, go_sem, ↓reduceIte, Nat.reduceLT, Nat.reduceEqDiff, Nat.reduceAdd, Nat.reduceMul, Nat.reduceSub, Int.reduceAdd, Int.reduceSub, Nat.reduceLeDiff, Int.reduceLT, Int.reduceLE, Int.reduceEq, Int.reduceNeg, Int.reduceToNat]
      repeat' ((first | refine guardB_dec (fun hy => ?_) (fun hy => ?_) | refine guardB_bool (fun hy => ?_) (fun hy => ?_) | refine guardQ_ite (fun hy => ?_) (fun hy => ?_) | refine brQ_dec (fun hy => ?_) (fun hy => ?_) | refine brQ_bool (fun hy => ?_) (fun hy => ?_)) <;> (try simp only [Bool.not_eq_true', Bool.not_eq_false', Bool.and_eq_true, Bool.or_eq_false_iff, decide_eq_true_eq, decide_eq_false_iff_not] at hy) <;> simp (disch := first | rfl | omega | exact lt_new _ | assumption | decide | (simp [tk_here, tk_app, tk_0, tk_S, gr_here, gr_app, gr_0, gr_S] <;> omega) | fail) only [l113_9, r113_4, r113_5, r113_6, r113_8, r113_7, rs113, gc113, loadV_ptr, storeV_ptr, List.append_assoc, List.length_append, List.length_cons, List.length_nil, List.set_cons_zero, List.set_cons_succ, tk_here, tk_app, gr_here, gr_app, st_here, st_app, t1, tt, hlt', ld, hs1, n5, go_sem, ↓reduceIte, Nat.reduceLT, Nat.reduceEqDiff, Nat.reduceAdd, Nat.reduceMul, Nat.reduceSub, Int.reduceAdd, Int.reduceSub, Nat.reduceLeDiff, Int.reduceLT, Int.reduceLE, Int.reduceEq, Int.reduceNeg, Int.reduceToNat, hy])
      all_goals (refine finQ_app ?_; simp (disch := first | rfl | omega | exact lt_new _ | assumption | decide | (simp [tk_here, tk_app, tk_0, tk_S, gr_here, gr_app, gr_0, gr_S] <;> omega) | fail) only [go_sem, ↓reduceIte, Nat.reduceLT, Nat.reduceEqDiff, Nat.reduceAdd, Nat.reduceMul, Nat.reduceSub, Int.reduceAdd, Int.reduceSub, Nat.reduceLeDiff, Int.reduceLT, Int.reduceLE, Int.reduceEq, Int.reduceNeg, Int.reduceToNat, hW])
  · obtain rfl : i = c.faces.length := by omega
    rw [List.take_length] at hb
    have hb0 := hb
    clear hb
    simp (disch := first | rfl | omega | exact lt_new _ | assumption | decide | (simp [tk_here, tk_app, tk_0, tk_S, gr_here, gr_app, gr_0, gr_S] <;> omega) | fail) only [l113_9, r113_4, r113_10, loadV_ptr, storeV_ptr, List.append_assoc, List.length_append, List.length_cons, List.length_nil, List.set_cons_zero, List.set_cons_succ, tk_here, tk_app, gr_here, gr_app, st_here, st_app, t1, tt, Int.lt_irrefl, go_sem, ↓reduceIte, Nat.reduceLT, Nat.reduceEqDiff, Nat.reduceAdd, Nat.reduceMul, Nat.reduceSub, Int.reduceAdd, Int.reduceSub, Nat.reduceLeDiff, Int.reduceLT, Int.reduceLE, Int.reduceEq, Int.reduceNeg, Int.reduceToNat]
    repeat' ((first | refine guardB_dec (fun hy => ?_) (fun hy => ?_) | refine guardB_bool (fun hy => ?_) (fun hy => ?_) | refine guardQ_ite (fun hy => ?_) (fun hy => ?_) | refine brQ_dec (fun hy => ?_) (fun hy => ?_) | refine brQ_bool (fun hy => ?_) (fun hy => ?_)) <;> (try simp only [Bool.not_eq_true', Bool.not_eq_false', Bool.and_eq_true, Bool.or_eq_false_iff, decide_eq_true_eq, decide_eq_false_iff_not] at hy) <;> simp (disch := first | rfl | omega | exact lt_new _ | assumption | decide | (simp [tk_here, tk_app, tk_0, tk_S, gr_here, gr_app, gr_0, gr_S] <;> omega) | fail) only [l113_9, r113_4, r113_10, loadV_ptr, storeV_ptr, List.append_assoc, List.length_append, List.length_cons, List.length_nil, List.set_cons_zero, List.set_cons_succ, tk_here, tk_app, gr_here, gr_app, st_here, st_app, t1, tt, Int.lt_irrefl, go_sem, ↓reduceIte, Nat.reduceLT, Nat.reduceEqDiff, Nat.reduceAdd, Nat.reduceMul, Nat.reduceSub, Int.reduceAdd, Int.reduceSub, Nat.reduceLeDiff, Int.reduceLT, Int.reduceLE, Int.reduceEq, Int.reduceNeg, Int.reduceToNat, hy])
    refine Wp_loop (fun m T D H' => ∃ i G, m = c.names.length - i ∧ i ≤ c.names.length ∧ D = [] ∧ H' = H ++ .row 0 (cpE.f c) true :: G ∧ get T 1 = .ptr H.length 0 0 ∧ get T 5 = .int .i64 i ∧ (c.names.take i).any (fun x => !nmB x) = false) ?_ c.names.length _ _ _ ?_
    case refine_2 =>
      refine ⟨0, _, rfl, by omega, rfl, rfl, ?_, ?_, rfl⟩
      all_goals simp (disch := first | rfl | omega | exact lt_new _ | assumption | decide | (simp [tk_here, tk_app, tk_0, tk_S, gr_here, gr_app, gr_0, gr_S] <;> omega) | fail) only [go_sem, ↓reduceIte, Nat.reduceLT, Nat.reduceEqDiff, Nat.reduceAdd, Nat.reduceMul, Nat.reduceSub, Int.reduceAdd, Int.reduceSub, Nat.reduceLeDiff, Int.reduceLT, Int.reduceLE, Int.reduceEq, Int.reduceNeg, Int.reduceToNat, t1]
      all_goals first | rfl | (simp; done)
    clear t1 tt
    rintro m T D H' ⟨i, G, rfl, hi, rfl, rfl, t1, tt, hb⟩
    by_cases hlt : i < c.names.length
    · have hlt' : (i : Int) < c.names.length := by omega
      have ld := fun H => ldN (H := H) hlt
      have hmem := nmE.at_mem hlt
      obtain ⟨x, hx⟩ : ∃ x, nmE.at c.names i = x := ⟨_, rfl⟩
      rw [hx] at ld hmem
      have hs1 := fn149 x.text (by have := (o2 _ hmem).2; omega)
      have hlb := (o2 _ hmem).1
      by_cases hq : nmB x = true
      · have hn := any_none nmE hlt hb (by rw [hx]; simp [hq])
        obtain ⟨⟨g1, g2⟩, g3⟩ : (txB x.text = true ∧ 1 ≤ x.addr.length) ∧ x.addr.length ≤ 16 := by simpa [nmB] using hq
        have n2 : ¬ (x.addr.length : Int) < 1 := by omega
        have n3 : ¬ (16 : Int) < x.addr.length := by omega
        simp (disch := first | rfl | omega | exact lt_new _ | assumption | decide | (simp [tk_here, tk_app, tk_0, tk_S, gr_here, gr_app, gr_0, gr_S] <;> omega) | fail) only [l113_16, r113_11, r113_12, r113_13, r113_15, loadV_ptr, storeV_ptr, List.append_assoc, List.length_append, List.length_cons, List.length_nil, List.set_cons_zero, List.set_cons_succ, tk_here, tk_app, gr_here, gr_app, st_here, st_app, t1, tt, hlt', ld, hs1, g1, n2, n3, go_sem, ↓reduceIte, Nat.reduceLT, Nat.reduceEqDiff, Nat.reduceAdd, Nat.reduceMul, Nat.reduceSub, Int.reduceAdd, Int.reduceSub, Nat.reduceLeDiff, Int.reduceLT, Int.reduceLE, Int.reduceEq, Int.reduceNeg, Int.reduceToNat]
        repeat' ((first | refine guardB_dec (fun hy => ?_) (fun hy => ?_) | refine guardB_bool (fun hy => ?_) (fun hy => ?_) | refine guardQ_ite (fun hy => ?_) (fun hy => ?_) | refine brQ_dec (fun hy => ?_) (fun hy => ?_) | refine brQ_bool (fun hy => ?_) (fun hy => ?_)) <;> (try simp only [Bool.not_eq_true', Bool.not_eq_false', Bool.and_eq_true, Bool.or_eq_false_iff, decide_eq_true_eq, decide_eq_false_iff_not] at hy) <;> simp (disch := first | rfl | omega | exact lt_new _ | assumption | decide | (simp [tk_here, tk_app, tk_0, tk_S, gr_here, gr_app, gr_0, gr_S] <;> omega) | fail) only [l113_16, r113_11, r113_12, r113_13, r113_15, loadV_ptr, storeV_ptr, List.append_assoc, List.length_append, List.length_cons, List.length_nil, List.set_cons_zero, List.set_cons_succ, tk_here, tk_app, gr_here, gr_app, st_here, st_app, t1, tt, hlt', ld, hs1, g1, n2, n3, go_sem, ↓reduceIte, Nat.reduceLT, Nat.reduceEqDiff, Nat.reduceAdd, Nat.reduceMul, Nat.reduceSub, Int.reduceAdd, Int.reduceSub, Nat.reduceLeDiff, Int.reduceLT, Int.reduceLE, Int.reduceEq, Int.reduceNeg, Int.reduceToNat, hy])
        exact ⟨_, by omega, i + 1, _, rfl, hlt, rfl, rfl, hn⟩
      · have hW : wrongB c = true := by unfold wrongB; rw [any_mem nmE (q := fun x => !nmB x) hlt (by rw [hx]; simp [hq])]; simp
        have n5 : ¬ (x.addr.length : Int) < 1 → ¬ (16 : Int) < x.addr.length → txB x.text = false := fun a b => by
          cases e : txB x.text with
          | false => rfl
          | true => exact absurd (by simp [nmB, e]; omega) hq
        simp (disch := first | rfl | omega | exact lt_new _ | assumption | decide | (simp [tk_here, tk_app, tk_0, tk_S, gr_here, gr_app, gr_0, gr_S] <;> omega) | fail) only [l113_16, r113_11, r113_12, r113_13, r113_15, r113_14, rs113, gc113, loadV_ptr, storeV_ptr, List.append_assoc, List.length_append, List.length_cons, List.length_nil, List.set_cons_zero, List.set_cons_succ, tk_here, tk_app, gr_here, gr_app, st_here, st_app, t1, tt, hlt', ld, hs1, n5, go_sem, ↓reduceIte, Nat.reduceLT, Nat.reduceEqDiff, Nat.reduceAdd, Nat.reduceMul, Nat.reduceSub, Int.reduceAdd, Int.reduceSub, Nat.reduceLeDiff, Int.reduceLT, Int.reduceLE, Int.reduceEq, Int.reduceNeg, Int.reduceToNat]
        repeat' ((first | refine guardB_dec (fun hy => ?_) (fun hy => ?_) | refine guardB_bool (fun hy => ?_) (fun hy => ?_) | refine guardQ_ite (fun hy => ?_) (fun hy => ?_) | refine brQ_dec (fun hy => ?_) (fun hy => ?_) | refine brQ_bool (fun hy => ?_) (fun hy => ?_)) <;> (try simp only [Bool.not_eq_true', Bool.not_eq_false', Bool.and_eq_true, Bool.or_eq_false_iff, decide_eq_true_eq, decide_eq_false_iff_not] at hy) <;> simp (disch := first | rfl | omega | exact lt_new _ | assumption | decide | (simp [tk_here, tk_app, tk_0, tk_S, gr_here, gr_app, gr_0, gr_S] <;> omega) | fail) only [l113_16, r113_11, r113_12, r113_13, r113_15, r113_14, rs113, gc113, loadV_ptr, storeV_ptr, List.append_assoc, List.length_append, List.length_cons, List.length_nil, List.set_cons_zero, List.set_cons_succ, tk_here, tk_app, gr_here, gr_app, st_here, st_app, t1, tt, hlt', ld, hs1, n5, go_sem, ↓reduceIte, Nat.reduceLT, Nat.reduceEqDiff, Nat.reduceAdd, Nat.reduceMul, Nat.reduceSub, Int.reduceAdd, Int.reduceSub, Nat.reduceLeDiff, Int.reduceLT, Int.reduceLE, Int.reduceEq, Int.reduceNeg, Int.reduceToNat, hy])
        all_goals (refine finQ_app ?_; simp (disch := first | rfl | omega | exact lt_new _ | assumption | decide | (simp [tk_here, tk_app, tk_0, tk_S, gr_here, gr_app, gr_0, gr_S] <;> omega) | fail) only [go_sem, ↓reduceIte, Nat.reduceLT, Nat.reduceEqDiff, Nat.reduceAdd, Nat.reduceMul, Nat.reduceSub, Int.reduceAdd, Int.reduceSub, Nat.reduceLeDiff, Int.reduceLT, Int.reduceLE, Int.reduceEq, Int.reduceNeg, Int.reduceToNat, hW])
    · obtain rfl : i = c.names.length := by omega
      rw [List.take_length] at hb
      have hb1 := hb
      clear hb
      simp (disch := first | rfl | omega | exact lt_new _ | assumption | decide | (simp [tk_here, tk_app, tk_0, tk_S, gr_here, gr_app, gr_0, gr_S] <;> omega) | fail) only [l113_16, r113_11, r113_17, loadV_ptr, storeV_ptr, List.append_assoc, List.length_append, List.length_cons, List.length_nil, List.set_cons_zero, List.set_cons_succ, tk_here, tk_app, gr_here, gr_app, st_here, st_app, t1, tt, Int.lt_irrefl, go_sem, ↓reduceIte, Nat.reduceLT, Nat.reduceEqDiff, Nat.reduceAdd, Nat.reduceMul, Nat.reduceSub, Int.reduceAdd, Int.reduceSub, Nat.reduceLeDiff, Int.reduceLT, Int.reduceLE, Int.reduceEq, Int.reduceNeg, Int.reduceToNat]
      repeat' ((first | refine guardB_dec (fun hy => ?_) (fun hy => ?_) | refine guardB_bool (fun hy => ?_) (fun hy => ?_) | refine guardQ_ite (fun hy => ?_) (fun hy => ?_) | refine brQ_dec (fun hy => ?_) (fun hy => ?_) | refine brQ_bool (fun hy => ?_) (fun hy => ?_)) <;> (try simp only [Bool.not_eq_true', Bool.not_eq_false', Bool.and_eq_true, Bool.or_eq_false_iff, decide_eq_true_eq, decide_eq_false_iff_not] at hy) <;> simp (disch := first | rfl | omega | exact lt_new _ | assumption | decide | (simp [tk_here, tk_app, tk_0, tk_S, gr_here, gr_app, gr_0, gr_S] <;> omega) | fail) only [l113_16, r113_11, r113_17, loadV_ptr, storeV_ptr, List.append_assoc, List.length_append, List.length_cons, List.length_nil, List.set_cons_zero, List.set_cons_succ, tk_here, tk_app, gr_here, gr_app, st_here, st_app, t1, tt, Int.lt_irrefl, go_sem, ↓reduceIte, Nat.reduceLT, Nat.reduceEqDiff, Nat.reduceAdd, Nat.reduceMul, Nat.reduceSub, Int.reduceAdd, Int.reduceSub, Nat.reduceLeDiff, Int.reduceLT, Int.reduceLE, Int.reduceEq, Int.reduceNeg, Int.reduceToNat, hy])
      refine Wp_loop (fun m T D H' => ∃ i G, m = c.secrets.length - i ∧ i ≤ c.secrets.length ∧ D = [] ∧ H' = H ++ .row 0 (cpE.f c) true :: G ∧ get T 1 = .ptr H.length 0 0 ∧ get T 7 = .int .i64 i ∧ (c.secrets.take i).any (fun x => !scB x) = false) ?_ c.secrets.length _ _ _ ?_
      case refine_2 =>
        refine ⟨0, _, rfl, by omega, rfl, rfl, ?_, ?_, rfl⟩
        all_goals simp (disch := first | rfl | omega | exact lt_new _ | assumption | decide | (simp [tk_here, tk_app, tk_0, tk_S, gr_here, gr_app, gr_0, gr_S] <;> omega) | fail) only [go_sem, ↓reduceIte, Nat.reduceLT, Nat.reduceEqDiff, Nat.reduceAdd, Nat.reduceMul, Nat.reduceSub, Int.reduceAdd, Int.reduceSub, Nat.reduceLeDiff, Int.reduceLT, Int.reduceLE, Int.reduceEq, Int.reduceNeg, Int.reduceToNat, t1]
        all_goals first | rfl | (simp; done)
      clear t1 tt
      rintro m T D H' ⟨i, G, rfl, hi, rfl, rfl, t1, tt, hb⟩
      by_cases hlt : i < c.secrets.length
      · have hlt' : (i : Int) < c.secrets.length := by omega
        have ld := fun H => ldS (H := H) hlt
        have hmem := scE.at_mem hlt
        obtain ⟨x, hx⟩ : ∃ x, scE.at c.secrets i = x := ⟨_, rfl⟩
        rw [hx] at ld hmem
        have hs1 := fn149 x.label (by have := (o3 _ hmem).1; omega)
        have hlb := (o3 _ hmem).2
        by_cases hq : scB x = true
        · have hn := any_none scE hlt hb (by rw [hx]; simp [hq])
          obtain ⟨⟨⟨g1, n2⟩, g3⟩, g4⟩ : ((txB x.label = true ∧ ¬ x.label = []) ∧ 1 ≤ x.key.length) ∧ x.key.length ≤ 200 := by simpa [scB] using hq
          have n3 : ¬ (x.key.length : Int) < 1 := by omega
          have n4 : ¬ (200 : Int) < x.key.length := by omega
          simp (disch := first | rfl | omega | exact lt_new _ | assumption | decide | (simp [tk_here, tk_app, tk_0, tk_S, gr_here, gr_app, gr_0, gr_S] <;> omega) | fail) only [l113_23, r113_18, r113_19, r113_20, r113_22, loadV_ptr, storeV_ptr, List.append_assoc, List.length_append, List.length_cons, List.length_nil, List.set_cons_zero, List.set_cons_succ, tk_here, tk_app, gr_here, gr_app, st_here, st_app, t1, tt, hlt', ld, hs1, g1, n2, n3, n4, go_sem, ↓reduceIte, Nat.reduceLT, Nat.reduceEqDiff, Nat.reduceAdd, Nat.reduceMul, Nat.reduceSub, Int.reduceAdd, Int.reduceSub, Nat.reduceLeDiff, Int.reduceLT, Int.reduceLE, Int.reduceEq, Int.reduceNeg, Int.reduceToNat]
          repeat' ((first | refine guardB_dec (fun hy => ?_) (fun hy => ?_) | refine guardB_bool (fun hy => ?_) (fun hy => ?_) | refine guardQ_ite (fun hy => ?_) (fun hy => ?_) | refine brQ_dec (fun hy => ?_) (fun hy => ?_) | refine brQ_bool (fun hy => ?_) (fun hy => ?_)) <;> (try simp only [Bool.not_eq_true', Bool.not_eq_false', Bool.and_eq_true, Bool.or_eq_false_iff, decide_eq_true_eq, decide_eq_false_iff_not] at hy) <;> simp (disch := first | rfl | omega | exact lt_new _ | assumption | decide | (simp [tk_here, tk_app, tk_0, tk_S, gr_here, gr_app, gr_0, gr_S] <;> omega) | fail) only [l113_23, r113_18, r113_19, r113_20, r113_22, loadV_ptr, storeV_ptr, List.append_assoc, List.length_append, List.length_cons, List.length_nil, List.set_cons_zero, List.set_cons_succ, tk_here, tk_app, gr_here, gr_app, st_here, st_app, t1, tt, hlt', ld, hs1, g1, n2, n3, n4, go_sem, ↓reduceIte, Nat.reduceLT, Nat.reduceEqDiff, Nat.reduceAdd, Nat.reduceMul, Nat.reduceSub, Int.reduceAdd, Int.reduceSub, Nat.reduceLeDiff, Int.reduceLT, Int.reduceLE, Int.reduceEq, Int.reduceNeg, Int.reduceToNat, hy])
          exact ⟨_, by omega, i + 1, _, rfl, hlt, rfl, rfl, hn⟩
        · have hW : wrongB c = true := by unfold wrongB; rw [any_mem scE (q := fun x => !scB x) hlt (by rw [hx]; simp [hq])]; simp
          have n5 : txB x.label = true → ¬ x.label = [] → ¬ (x.key.length : Int) < 1 → (200 : Int) < x.key.length := fun a b d => by
            by_cases e : (200 : Int) < x.key.length
            · exact e
            · exact absurd (by simp [scB, a, b]; omega) hq
          simp (disch := first | rfl | omega | exact lt_new _ | assumption | decide | (simp [tk_here, tk_app, tk_0, tk_S, gr_here, gr_app, gr_0, gr_S] <;> omega) | fail) only [l113_23, r113_18, r113_19, r113_20, r113_22, r113_21, rs113, gc113, loadV_ptr, storeV_ptr, List.append_assoc, List.length_append, List.length_cons, List.length_nil, List.set_cons_zero, List.set_cons_succ, tk_here, tk_app, gr_here, gr_app, st_here, st_app, t1, tt, hlt', ld, hs1, n5, go_sem, ↓reduceIte, Nat.reduceLT, Nat.reduceEqDiff, Nat.reduceAdd, Nat.reduceMul, Nat.reduceSub, Int.reduceAdd, Int.reduceSub, Nat.reduceLeDiff, Int.reduceLT, Int.reduceLE, Int.reduceEq, Int.reduceNeg, Int.reduceToNat]
          repeat' ((first | refine guardB_dec (fun hy => ?_) (fun hy => ?_) | refine guardB_bool (fun hy => ?_) (fun hy => ?_) | refine guardQ_ite (fun hy => ?_) (fun hy => ?_) | refine brQ_dec (fun hy => ?_) (fun hy => ?_) | refine brQ_bool (fun hy => ?_) (fun hy => ?_)) <;> (try simp only [Bool.not_eq_true', Bool.not_eq_false', Bool.and_eq_true, Bool.or_eq_false_iff, decide_eq_true_eq, decide_eq_false_iff_not] at hy) <;> simp (disch := first | rfl | omega | exact lt_new _ | assumption | decide | (simp [tk_here, tk_app, tk_0, tk_S, gr_here, gr_app, gr_0, gr_S] <;> omega) | fail) only [l113_23, r113_18, r113_19, r113_20, r113_22, r113_21, rs113, gc113, loadV_ptr, storeV_ptr, List.append_assoc, List.length_append, List.length_cons, List.length_nil, List.set_cons_zero, List.set_cons_succ, tk_here, tk_app, gr_here, gr_app, st_here, st_app, t1, tt, hlt', ld, hs1, n5, go_sem, ↓reduceIte, Nat.reduceLT, Nat.reduceEqDiff, Nat.reduceAdd, Nat.reduceMul, Nat.reduceSub, Int.reduceAdd, Int.reduceSub, Nat.reduceLeDiff, Int.reduceLT, Int.reduceLE, Int.reduceEq, Int.reduceNeg, Int.reduceToNat, hy])
          all_goals (refine finQ_app ?_; simp (disch := first | rfl | omega | exact lt_new _ | assumption | decide | (simp [tk_here, tk_app, tk_0, tk_S, gr_here, gr_app, gr_0, gr_S] <;> omega) | fail) only [go_sem, ↓reduceIte, Nat.reduceLT, Nat.reduceEqDiff, Nat.reduceAdd, Nat.reduceMul, Nat.reduceSub, Int.reduceAdd, Int.reduceSub, Nat.reduceLeDiff, Int.reduceLT, Int.reduceLE, Int.reduceEq, Int.reduceNeg, Int.reduceToNat, hW])
      · obtain rfl : i = c.secrets.length := by omega
        rw [List.take_length] at hb
        have hb2 := hb
        clear hb
        simp (disch := first | rfl | omega | exact lt_new _ | assumption | decide | (simp [tk_here, tk_app, tk_0, tk_S, gr_here, gr_app, gr_0, gr_S] <;> omega) | fail) only [l113_23, r113_18, r113_24, loadV_ptr, storeV_ptr, List.append_assoc, List.length_append, List.length_cons, List.length_nil, List.set_cons_zero, List.set_cons_succ, tk_here, tk_app, gr_here, gr_app, st_here, st_app, t1, tt, Int.lt_irrefl, go_sem, ↓reduceIte, Nat.reduceLT, Nat.reduceEqDiff, Nat.reduceAdd, Nat.reduceMul, Nat.reduceSub, Int.reduceAdd, Int.reduceSub, Nat.reduceLeDiff, Int.reduceLT, Int.reduceLE, Int.reduceEq, Int.reduceNeg, Int.reduceToNat]
        repeat' ((first | refine guardB_dec (fun hy => ?_) (fun hy => ?_) | refine guardB_bool (fun hy => ?_) (fun hy => ?_) | refine guardQ_ite (fun hy => ?_) (fun hy => ?_) | refine brQ_dec (fun hy => ?_) (fun hy => ?_) | refine brQ_bool (fun hy => ?_) (fun hy => ?_)) <;> (try simp only [Bool.not_eq_true', Bool.not_eq_false', Bool.and_eq_true, Bool.or_eq_false_iff, decide_eq_true_eq, decide_eq_false_iff_not] at hy) <;> simp (disch := first | rfl | omega | exact lt_new _ | assumption | decide | (simp [tk_here, tk_app, tk_0, tk_S, gr_here, gr_app, gr_0, gr_S] <;> omega) | fail) only [l113_23, r113_18, r113_24, loadV_ptr, storeV_ptr, List.append_assoc, List.length_append, List.length_cons, List.length_nil, List.set_cons_zero, List.set_cons_succ, tk_here, tk_app, gr_here, gr_app, st_here, st_app, t1, tt, Int.lt_irrefl, go_sem, ↓reduceIte, Nat.reduceLT, Nat.reduceEqDiff, Nat.reduceAdd, Nat.reduceMul, Nat.reduceSub, Int.reduceAdd, Int.reduceSub, Nat.reduceLeDiff, Int.reduceLT, Int.reduceLE, Int.reduceEq, Int.reduceNeg, Int.reduceToNat, hy])
        refine Wp_loop (fun m T D H' => ∃ i G, m = c.packets.length - i ∧ i ≤ c.packets.length ∧ D = [] ∧ H' = H ++ .row 0 (cpE.f c) true :: G ∧ get T 1 = .ptr H.length 0 0 ∧ get T 9 = .int .i64 i ∧ (c.packets.take i).any (fun x => !pfB x c.faces) = false) ?_ c.packets.length _ _ _ ?_
        case refine_2 =>
          refine ⟨0, _, rfl, by omega, rfl, rfl, ?_, ?_, rfl⟩
          all_goals simp (disch := first | rfl | omega | exact lt_new _ | assumption | decide | (simp [tk_here, tk_app, tk_0, tk_S, gr_here, gr_app, gr_0, gr_S] <;> omega) | fail) only [go_sem, ↓reduceIte, Nat.reduceLT, Nat.reduceEqDiff, Nat.reduceAdd, Nat.reduceMul, Nat.reduceSub, Int.reduceAdd, Int.reduceSub, Nat.reduceLeDiff, Int.reduceLT, Int.reduceLE, Int.reduceEq, Int.reduceNeg, Int.reduceToNat, t1]
          all_goals first | rfl | (simp; done)
        clear t1 tt
        rintro m T D H' ⟨i, G, rfl, hi, rfl, rfl, t1, tt, hb⟩
        by_cases hlt : i < c.packets.length
        · have hlt' : (i : Int) < c.packets.length := by omega
          have ld := fun H => ldP (H := H) hlt
          have hmem := pkE.at_mem hlt
          obtain ⟨x, hx⟩ : ∃ x, pkE.at c.packets i = x := ⟨_, rfl⟩
          rw [hx] at ld hmem
          have hs1 := fn150 x (o4 _ hmem)
          by_cases hq : pfB x c.faces = true
          · have hn := any_none pkE hlt hb (by rw [hx]; simp [hq])
            obtain ⟨⟨g1, g2⟩, g3⟩ : (0 ≤ x.face ∧ x.face < (c.faces.length : Int)) ∧ pkB x (fcE.at c.faces x.face.toNat).snap = true := by simpa [pfB] using hq
            have n2 : ¬ x.face < 0 := by omega
            have n3 : ¬ (c.faces.length : Int) ≤ x.face := by omega
            have l2 := fun H => ldF2 (H := H) (l := c.faces) (i := x.face.toNat) (by omega)
            simp (disch := first | rfl | omega | exact lt_new _ | assumption | decide | (simp [tk_here, tk_app, tk_0, tk_S, gr_here, gr_app, gr_0, gr_S] <;> omega) | fail) only [l113_30, r113_25, r113_26, r113_27, r113_29, loadV_ptr, storeV_ptr, List.append_assoc, List.length_append, List.length_cons, List.length_nil, List.set_cons_zero, List.set_cons_succ, tk_here, tk_app, gr_here, gr_app, st_here, st_app, t1, tt, hlt', ld, hs1, g3, n2, n3, g1, g2, l2, go_sem, ↓reduceIte, Nat.reduceLT, Nat.reduceEqDiff, Nat.reduceAdd, Nat.reduceMul, Nat.reduceSub, Int.reduceAdd, Int.reduceSub, Nat.reduceLeDiff, Int.reduceLT, Int.reduceLE, Int.reduceEq, Int.reduceNeg, Int.reduceToNat]
            repeat' ((first | refine guardB_dec (fun hy => ?_) (fun hy => ?_) | refine guardB_bool (fun hy => ?_) (fun hy => ?_) | refine guardQ_ite (fun hy => ?_) (fun hy => ?_) | refine brQ_dec (fun hy => ?_) (fun hy => ?_) | refine brQ_bool (fun hy => ?_) (fun hy => ?_)) <;> (try simp only [Bool.not_eq_true', Bool.not_eq_false', Bool.and_eq_true, Bool.or_eq_false_iff, decide_eq_true_eq, decide_eq_false_iff_not] at hy) <;> simp (disch := first | rfl | omega | exact lt_new _ | assumption | decide | (simp [tk_here, tk_app, tk_0, tk_S, gr_here, gr_app, gr_0, gr_S] <;> omega) | fail) only [l113_30, r113_25, r113_26, r113_27, r113_29, loadV_ptr, storeV_ptr, List.append_assoc, List.length_append, List.length_cons, List.length_nil, List.set_cons_zero, List.set_cons_succ, tk_here, tk_app, gr_here, gr_app, st_here, st_app, t1, tt, hlt', ld, hs1, g3, n2, n3, g1, g2, l2, go_sem, ↓reduceIte, Nat.reduceLT, Nat.reduceEqDiff, Nat.reduceAdd, Nat.reduceMul, Nat.reduceSub, Int.reduceAdd, Int.reduceSub, Nat.reduceLeDiff, Int.reduceLT, Int.reduceLE, Int.reduceEq, Int.reduceNeg, Int.reduceToNat, hy])
            exact ⟨_, by omega, i + 1, _, rfl, hlt, rfl, rfl, hn⟩
          · have hW : wrongB c = true := by unfold wrongB; rw [any_mem pkE (q := fun x => !pfB x c.faces) hlt (by rw [hx]; simp [hq])]; simp
            have n5 : ∀ (_ : ¬ x.face < 0) (_ : ¬ (c.faces.length : Int) ≤ x.face), pkB x (fcE.at c.faces x.face.toNat).snap = false := fun a b => by
              cases e : pkB x (fcE.at c.faces x.face.toNat).snap with
              | false => rfl
              | true => exact absurd (by simp [pfB, e]; omega) hq
            have l2 := fun H (a : ¬ x.face < 0) (b : ¬ (c.faces.length : Int) ≤ x.face) => ldF2 (H := H) (l := c.faces) (i := x.face.toNat) (by omega)
            simp (disch := first | rfl | omega | exact lt_new _ | assumption | decide | (simp [tk_here, tk_app, tk_0, tk_S, gr_here, gr_app, gr_0, gr_S] <;> omega) | fail) only [l113_30, r113_25, r113_26, r113_27, r113_29, r113_28, rs113, gc113, loadV_ptr, storeV_ptr, List.append_assoc, List.length_append, List.length_cons, List.length_nil, List.set_cons_zero, List.set_cons_succ, tk_here, tk_app, gr_here, gr_app, st_here, st_app, t1, tt, hlt', ld, hs1, n5, l2, go_sem, ↓reduceIte, Nat.reduceLT, Nat.reduceEqDiff, Nat.reduceAdd, Nat.reduceMul, Nat.reduceSub, Int.reduceAdd, Int.reduceSub, Nat.reduceLeDiff, Int.reduceLT, Int.reduceLE, Int.reduceEq, Int.reduceNeg, Int.reduceToNat]
            repeat' ((first | refine guardB_dec (fun hy => ?_) (fun hy => ?_) | refine guardB_bool (fun hy => ?_) (fun hy => ?_) | refine guardQ_ite (fun hy => ?_) (fun hy => ?_) | refine brQ_dec (fun hy => ?_) (fun hy => ?_) | refine brQ_bool (fun hy => ?_) (fun hy => ?_)) <;> (try simp only [Bool.not_eq_true', Bool.not_eq_false', Bool.and_eq_true, Bool.or_eq_false_iff, decide_eq_true_eq, decide_eq_false_iff_not] at hy) <;> simp (disch := first | rfl | omega | exact lt_new _ | assumption | decide | (simp [tk_here, tk_app, tk_0, tk_S, gr_here, gr_app, gr_0, gr_S] <;> omega) | fail) only [l113_30, r113_25, r113_26, r113_27, r113_29, r113_28, rs113, gc113, loadV_ptr, storeV_ptr, List.append_assoc, List.length_append, List.length_cons, List.length_nil, List.set_cons_zero, List.set_cons_succ, tk_here, tk_app, gr_here, gr_app, st_here, st_app, t1, tt, hlt', ld, hs1, n5, l2, go_sem, ↓reduceIte, Nat.reduceLT, Nat.reduceEqDiff, Nat.reduceAdd, Nat.reduceMul, Nat.reduceSub, Int.reduceAdd, Int.reduceSub, Nat.reduceLeDiff, Int.reduceLT, Int.reduceLE, Int.reduceEq, Int.reduceNeg, Int.reduceToNat, hy])
            all_goals (refine finQ_app ?_; simp (disch := first | rfl | omega | exact lt_new _ | assumption | decide | (simp [tk_here, tk_app, tk_0, tk_S, gr_here, gr_app, gr_0, gr_S] <;> omega) | fail) only [go_sem, ↓reduceIte, Nat.reduceLT, Nat.reduceEqDiff, Nat.reduceAdd, Nat.reduceMul, Nat.reduceSub, Int.reduceAdd, Int.reduceSub, Nat.reduceLeDiff, Int.reduceLT, Int.reduceLE, Int.reduceEq, Int.reduceNeg, Int.reduceToNat, hW])
        · obtain rfl : i = c.packets.length := by omega
          rw [List.take_length] at hb
          have hW : wrongB c = false := by
            have hz : ¬ (c.faces.length : Int) = 0 := by omega
            unfold wrongB
            rw [decide_eq_false hz, h1, hb0, hb1, hb2, hb]; rfl
          simp (disch := first | rfl | omega | exact lt_new _ | assumption | decide | (simp [tk_here, tk_app, tk_0, tk_S, gr_here, gr_app, gr_0, gr_S] <;> omega) | fail) only [l113_30, r113_25, r113_31, rs113, gc113, loadV_ptr, storeV_ptr, List.append_assoc, List.length_append, List.length_cons, List.length_nil, List.set_cons_zero, List.set_cons_succ, tk_here, tk_app, gr_here, gr_app, st_here, st_app, t1, tt, Int.lt_irrefl, go_sem, ↓reduceIte, Nat.reduceLT, Nat.reduceEqDiff, Nat.reduceAdd, Nat.reduceMul, Nat.reduceSub, Int.reduceAdd, Int.reduceSub, Nat.reduceLeDiff, Int.reduceLT, Int.reduceLE, Int.reduceEq, Int.reduceNeg, Int.reduceToNat]
          repeat' ((first | refine guardB_dec (fun hy => ?_) (fun hy => ?_) | refine guardB_bool (fun hy => ?_) (fun hy => ?_) | refine guardQ_ite (fun hy => ?_) (fun hy => ?_) | refine brQ_dec (fun hy => ?_) (fun hy => ?_) | refine brQ_bool (fun hy => ?_) (fun hy => ?_)) <;> (try simp only [Bool.not_eq_true', Bool.not_eq_false', Bool.and_eq_true, Bool.or_eq_false_iff, decide_eq_true_eq, decide_eq_false_iff_not] at hy) <;> simp (disch := first | rfl | omega | exact lt_new _ | assumption | decide | (simp [tk_here, tk_app, tk_0, tk_S, gr_here, gr_app, gr_0, gr_S] <;> omega) | fail) only [l113_30, r113_25, r113_31, rs113, gc113, loadV_ptr, storeV_ptr, List.append_assoc, List.length_append, List.length_cons, List.length_nil, List.set_cons_zero, List.set_cons_succ, tk_here, tk_app, gr_here, gr_app, st_here, st_app, t1, tt, Int.lt_irrefl, go_sem, ↓reduceIte, Nat.reduceLT, Nat.reduceEqDiff, Nat.reduceAdd, Nat.reduceMul, Nat.reduceSub, Int.reduceAdd, Int.reduceSub, Nat.reduceLeDiff, Int.reduceLT, Int.reduceLE, Int.reduceEq, Int.reduceNeg, Int.reduceToNat, hy])
          refine finQ_app ?_
          simp (disch := first | rfl | omega | exact lt_new _ | assumption | decide | (simp [tk_here, tk_app, tk_0, tk_S, gr_here, gr_app, gr_0, gr_S] <;> omega) | fail) only [go_sem, ↓reduceIte, Nat.reduceLT, Nat.reduceEqDiff, Nat.reduceAdd, Nat.reduceMul, Nat.reduceSub, Int.reduceAdd, Int.reduceSub, Nat.reduceLeDiff, Int.reduceLT, Int.reduceLE, Int.reduceEq, Int.reduceNeg, Int.reduceToNat, hW]
theorem fn63 (c : Cp) (hc : CpOk c) (H : Hp) : callL Try.prog pr 63 [.agg (cpE.f c)] H = some (.int .i64 (valE c), H) := by
  have h113 := fn113 c hc
  refine run63 (Nat.le_of_ble_eq_true rfl) ?_
  unfold valE
  by_cases hL : largeB c = true
  · rw [if_pos hL]
    unfold largeB at hL
    simp only [Bool.or_eq_true, decide_eq_true_eq] at hL
    simp (disch := first | rfl | omega | exact lt_new _ | assumption | decide | (simp [tk_here, tk_app, tk_0, tk_S, gr_here, gr_app, gr_0, gr_S] <;> omega) | fail) only [r63_0, r63_1, r63_2, r63_3, r63_4, r63_5, c63, rs63, gc63, loadV_ptr, storeV_ptr, List.append_assoc, List.length_append, List.length_cons, List.length_nil, List.set_cons_zero, List.set_cons_succ, tk_here, tk_app, gr_here, gr_app, st_here, st_app, h113, go_sem, ↓reduceIte, Nat.reduceLT, Nat.reduceEqDiff, Nat.reduceAdd, Nat.reduceMul, Nat.reduceSub, Int.reduceAdd, Int.reduceSub, Nat.reduceLeDiff, Int.reduceLT, Int.reduceLE, Int.reduceEq, Int.reduceNeg, Int.reduceToNat]
    repeat' ((first | refine guardB_dec (fun hy => ?_) (fun hy => ?_) | refine guardB_bool (fun hy => ?_) (fun hy => ?_) | refine guardQ_ite (fun hy => ?_) (fun hy => ?_) | refine brQ_dec (fun hy => ?_) (fun hy => ?_) | refine brQ_bool (fun hy => ?_) (fun hy => ?_)) <;> (try simp only [Bool.not_eq_true', Bool.not_eq_false', Bool.and_eq_true, Bool.or_eq_false_iff, decide_eq_true_eq, decide_eq_false_iff_not] at hy) <;> simp (disch := first | rfl | omega | exact lt_new _ | assumption | decide | (simp [tk_here, tk_app, tk_0, tk_S, gr_here, gr_app, gr_0, gr_S] <;> omega) | fail) only [r63_0, r63_1, r63_2, r63_3, r63_4, r63_5, c63, rs63, gc63, loadV_ptr, storeV_ptr, List.append_assoc, List.length_append, List.length_cons, List.length_nil, List.set_cons_zero, List.set_cons_succ, tk_here, tk_app, gr_here, gr_app, st_here, st_app, h113, go_sem, ↓reduceIte, Nat.reduceLT, Nat.reduceEqDiff, Nat.reduceAdd, Nat.reduceMul, Nat.reduceSub, Int.reduceAdd, Int.reduceSub, Nat.reduceLeDiff, Int.reduceLT, Int.reduceLE, Int.reduceEq, Int.reduceNeg, Int.reduceToNat, hy])
    all_goals first | (refine finQ_app ?_; simp (disch := first | rfl | omega | exact lt_new _ | assumption | decide | (simp [tk_here, tk_app, tk_0, tk_S, gr_here, gr_app, gr_0, gr_S] <;> omega) | fail) only [go_sem, ↓reduceIte, Nat.reduceLT, Nat.reduceEqDiff, Nat.reduceAdd, Nat.reduceMul, Nat.reduceSub, Int.reduceAdd, Int.reduceSub, Nat.reduceLeDiff, Int.reduceLT, Int.reduceLE, Int.reduceEq, Int.reduceNeg, Int.reduceToNat]; done) | omega
  · rw [if_neg hL]
    unfold largeB at hL
    simp only [Bool.or_eq_true, decide_eq_true_eq, not_or] at hL
    obtain ⟨⟨⟨q1, q2⟩, q3⟩, q4⟩ := hL
    cases hw : wrongB c
    all_goals
      simp (disch := first | rfl | omega | exact lt_new _ | assumption | decide | (simp [tk_here, tk_app, tk_0, tk_S, gr_here, gr_app, gr_0, gr_S] <;> omega) | fail) only [r63_0, r63_1, r63_2, r63_3, r63_4, r63_5, c63, rs63, gc63, loadV_ptr, storeV_ptr, List.append_assoc, List.length_append, List.length_cons, List.length_nil, List.set_cons_zero, List.set_cons_succ, tk_here, tk_app, gr_here, gr_app, st_here, st_app, q1, q2, q3, q4, h113, hw, go_sem, ↓reduceIte, Nat.reduceLT, Nat.reduceEqDiff, Nat.reduceAdd, Nat.reduceMul, Nat.reduceSub, Int.reduceAdd, Int.reduceSub, Nat.reduceLeDiff, Int.reduceLT, Int.reduceLE, Int.reduceEq, Int.reduceNeg, Int.reduceToNat]
      repeat' ((first | refine guardB_dec (fun hy => ?_) (fun hy => ?_) | refine guardB_bool (fun hy => ?_) (fun hy => ?_) | refine guardQ_ite (fun hy => ?_) (fun hy => ?_) | refine brQ_dec (fun hy => ?_) (fun hy => ?_) | refine brQ_bool (fun hy => ?_) (fun hy => ?_)) <;> (try simp only [Bool.not_eq_true', Bool.not_eq_false', Bool.and_eq_true, Bool.or_eq_false_iff, decide_eq_true_eq, decide_eq_false_iff_not] at hy) <;> simp (disch := first | rfl | omega | exact lt_new _ | assumption | decide | (simp [tk_here, tk_app, tk_0, tk_S, gr_here, gr_app, gr_0, gr_S] <;> omega) | fail) only [r63_0, r63_1, r63_2, r63_3, r63_4, r63_5, c63, rs63, gc63, loadV_ptr, storeV_ptr, List.append_assoc, List.length_append, List.length_cons, List.length_nil, List.set_cons_zero, List.set_cons_succ, tk_here, tk_app, gr_here, gr_app, st_here, st_app, q1, q2, q3, q4, h113, hw, go_sem, ↓reduceIte, Nat.reduceLT, Nat.reduceEqDiff, Nat.reduceAdd, Nat.reduceMul, Nat.reduceSub, Int.reduceAdd, Int.reduceSub, Nat.reduceLeDiff, Int.reduceLT, Int.reduceLE, Int.reduceEq, Int.reduceNeg, Int.reduceToNat, hy])
      refine finQ_app ?_
      simp (disch := first | rfl | omega | exact lt_new _ | assumption | decide | (simp [tk_here, tk_app, tk_0, tk_S, gr_here, gr_app, gr_0, gr_S] <;> omega) | fail) only [go_sem, ↓reduceIte, Nat.reduceLT, Nat.reduceEqDiff, Nat.reduceAdd, Nat.reduceMul, Nat.reduceSub, Int.reduceAdd, Int.reduceSub, Nat.reduceLeDiff, Int.reduceLT, Int.reduceLE, Int.reduceEq, Int.reduceNeg, Int.reduceToNat]
end Go.Proofs.Ytejkgnmjdaohdaa
/-
  How much captures weigh, and whether captures are equal, for the reference; walked. No statement of the seat stands here.
-/
namespace Go.Proofs.Ytejkgnmjdaohdaa
open Go Go.An
set_option maxRecDepth 4000
set_option linter.unusedSimpArgs false
set_option linter.unusedVariables false

theorem fn21 (c : Cp) (hc : CpOk c) (H : Hp) : ∃ n, callL Try.prog pr 21 [.agg (cpE.f c)] H = some (.int .i64 n, H) := by
  suffices h : ∃ r, callL Try.prog pr 21 [.agg (cpE.f c)] H = some r ∧ ∃ n, r = (.int .i64 n, H) by
    obtain ⟨r, h1, n, rfl⟩ := h; exact ⟨n, h1⟩
  obtain ⟨o0, o1, o1l, o2, o2l, o3, o3l, o4, o4l⟩ := hc
  refine ex21 (Nat.le_of_ble_eq_true rfl) ?_
  simp (disch := first | rfl | omega | exact lt_new _ | assumption | decide | (simp [tk_here, tk_app, tk_0, tk_S, gr_here, gr_app, gr_0, gr_S] <;> omega) | fail) only [r21_0, r21_1, r21_2, c21, loadV_ptr, storeV_ptr, List.append_assoc, List.length_append, List.length_cons, List.length_nil, List.set_cons_zero, List.set_cons_succ, tk_here, tk_app, gr_here, gr_app, st_here, st_app, go_sem, ↓reduceIte, Nat.reduceLT, Nat.reduceEqDiff, Nat.reduceAdd, Nat.reduceMul, Nat.reduceSub, Int.reduceAdd, Int.reduceSub, Nat.reduceLeDiff, Int.reduceLT, Int.reduceLE, Int.reduceEq, Int.reduceNeg, Int.reduceToNat]
  refine Wp_loop (fun m T D H' => ∃ i n, m = c.faces.length - i ∧ i ≤ c.faces.length ∧ D = [] ∧ H' = H ++ [.row 0 (cpE.f c) true] ∧ get T 1 = .ptr H.length 0 0 ∧ get T 4 = .int .i64 i ∧ get T 3 = .int .i64 n) ?_ c.faces.length _ _ _ ?_
  case refine_2 => exact ⟨0, _, by simp (disch := first | rfl | omega | exact lt_new _ | assumption | decide | (simp [tk_here, tk_app, tk_0, tk_S, gr_here, gr_app, gr_0, gr_S] <;> omega) | fail) only [go_sem, ↓reduceIte, Nat.reduceLT, Nat.reduceEqDiff, Nat.reduceAdd, Nat.reduceMul, Nat.reduceSub, Int.reduceAdd, Int.reduceSub, Nat.reduceLeDiff, Int.reduceLT, Int.reduceLE, Int.reduceEq, Int.reduceNeg, Int.reduceToNat]; simp; rfl⟩
  rintro m T D H' ⟨i, n, rfl, hi, rfl, rfl, t1, ti, t3⟩
  by_cases hlt : i < c.faces.length
  · have hlt' : (i : Int) < c.faces.length := by omega
    have q1 := (o1 _ (fcE.at_mem hlt)).1
    simp (disch := first | rfl | omega | exact lt_new _ | assumption | decide | (simp [tk_here, tk_app, tk_0, tk_S, gr_here, gr_app, gr_0, gr_S] <;> omega) | fail) only [l21_6, r21_3, r21_4, r21_5, loadV_ptr, storeV_ptr, List.append_assoc, List.length_append, List.length_cons, List.length_nil, List.set_cons_zero, List.set_cons_succ, tk_here, tk_app, gr_here, gr_app, st_here, st_app, t1, ti, t3, hlt', go_sem, ↓reduceIte, Nat.reduceLT, Nat.reduceEqDiff, Nat.reduceAdd, Nat.reduceMul, Nat.reduceSub, Int.reduceAdd, Int.reduceSub, Nat.reduceLeDiff, Int.reduceLT, Int.reduceLE, Int.reduceEq, Int.reduceNeg, Int.reduceToNat]
    exact ⟨_, by omega, i + 1, _, rfl, hlt, rfl, rfl⟩
  · obtain rfl : i = c.faces.length := by omega
    simp (disch := first | rfl | omega | exact lt_new _ | assumption | decide | (simp [tk_here, tk_app, tk_0, tk_S, gr_here, gr_app, gr_0, gr_S] <;> omega) | fail) only [l21_6, r21_3, r21_7, loadV_ptr, storeV_ptr, List.append_assoc, List.length_append, List.length_cons, List.length_nil, List.set_cons_zero, List.set_cons_succ, tk_here, tk_app, gr_here, gr_app, st_here, st_app, t1, ti, t3, Int.lt_irrefl, go_sem, ↓reduceIte, Nat.reduceLT, Nat.reduceEqDiff, Nat.reduceAdd, Nat.reduceMul, Nat.reduceSub, Int.reduceAdd, Int.reduceSub, Nat.reduceLeDiff, Int.reduceLT, Int.reduceLE, Int.reduceEq, Int.reduceNeg, Int.reduceToNat]
    refine Wp_loop (fun m T D H' => ∃ i n, m = c.names.length - i ∧ i ≤ c.names.length ∧ D = [] ∧ H' = H ++ [.row 0 (cpE.f c) true] ∧ get T 1 = .ptr H.length 0 0 ∧ get T 5 = .int .i64 i ∧ get T 3 = .int .i64 n) ?_ c.names.length _ _ _ ?_
    case refine_2 => exact ⟨0, _, by simp (disch := first | rfl | omega | exact lt_new _ | assumption | decide | (simp [tk_here, tk_app, tk_0, tk_S, gr_here, gr_app, gr_0, gr_S] <;> omega) | fail) only [go_sem, ↓reduceIte, Nat.reduceLT, Nat.reduceEqDiff, Nat.reduceAdd, Nat.reduceMul, Nat.reduceSub, Int.reduceAdd, Int.reduceSub, Nat.reduceLeDiff, Int.reduceLT, Int.reduceLE, Int.reduceEq, Int.reduceNeg, Int.reduceToNat, t1, t3]; simp; rfl⟩
    clear t1 t3 ti
    rintro m T D H' ⟨i, n, rfl, hi, rfl, rfl, t1, ti, t3⟩
    by_cases hlt : i < c.names.length
    · have hlt' : (i : Int) < c.names.length := by omega
      have q1 := o2 _ (nmE.at_mem hlt)
      have q2 := q1.2
      simp (disch := first | rfl | omega | exact lt_new _ | assumption | decide | (simp [tk_here, tk_app, tk_0, tk_S, gr_here, gr_app, gr_0, gr_S] <;> omega) | fail) only [l21_11, r21_8, r21_9, r21_10, loadV_ptr, storeV_ptr, List.append_assoc, List.length_append, List.length_cons, List.length_nil, List.set_cons_zero, List.set_cons_succ, tk_here, tk_app, gr_here, gr_app, st_here, st_app, t1, ti, t3, hlt', go_sem, ↓reduceIte, Nat.reduceLT, Nat.reduceEqDiff, Nat.reduceAdd, Nat.reduceMul, Nat.reduceSub, Int.reduceAdd, Int.reduceSub, Nat.reduceLeDiff, Int.reduceLT, Int.reduceLE, Int.reduceEq, Int.reduceNeg, Int.reduceToNat]
      exact ⟨_, by omega, i + 1, _, rfl, hlt, rfl, rfl⟩
    · obtain rfl : i = c.names.length := by omega
      simp (disch := first | rfl | omega | exact lt_new _ | assumption | decide | (simp [tk_here, tk_app, tk_0, tk_S, gr_here, gr_app, gr_0, gr_S] <;> omega) | fail) only [l21_11, r21_8, r21_12, loadV_ptr, storeV_ptr, List.append_assoc, List.length_append, List.length_cons, List.length_nil, List.set_cons_zero, List.set_cons_succ, tk_here, tk_app, gr_here, gr_app, st_here, st_app, t1, ti, t3, Int.lt_irrefl, go_sem, ↓reduceIte, Nat.reduceLT, Nat.reduceEqDiff, Nat.reduceAdd, Nat.reduceMul, Nat.reduceSub, Int.reduceAdd, Int.reduceSub, Nat.reduceLeDiff, Int.reduceLT, Int.reduceLE, Int.reduceEq, Int.reduceNeg, Int.reduceToNat]
      refine Wp_loop (fun m T D H' => ∃ i n, m = c.secrets.length - i ∧ i ≤ c.secrets.length ∧ D = [] ∧ H' = H ++ [.row 0 (cpE.f c) true] ∧ get T 1 = .ptr H.length 0 0 ∧ get T 6 = .int .i64 i ∧ get T 3 = .int .i64 n) ?_ c.secrets.length _ _ _ ?_
      case refine_2 => exact ⟨0, _, by simp (disch := first | rfl | omega | exact lt_new _ | assumption | decide | (simp [tk_here, tk_app, tk_0, tk_S, gr_here, gr_app, gr_0, gr_S] <;> omega) | fail) only [go_sem, ↓reduceIte, Nat.reduceLT, Nat.reduceEqDiff, Nat.reduceAdd, Nat.reduceMul, Nat.reduceSub, Int.reduceAdd, Int.reduceSub, Nat.reduceLeDiff, Int.reduceLT, Int.reduceLE, Int.reduceEq, Int.reduceNeg, Int.reduceToNat, t1, t3]; simp; rfl⟩
      clear t1 t3 ti
      rintro m T D H' ⟨i, n, rfl, hi, rfl, rfl, t1, ti, t3⟩
      by_cases hlt : i < c.secrets.length
      · have hlt' : (i : Int) < c.secrets.length := by omega
        have q1 := (o3 _ (scE.at_mem hlt)).1
        simp (disch := first | rfl | omega | exact lt_new _ | assumption | decide | (simp [tk_here, tk_app, tk_0, tk_S, gr_here, gr_app, gr_0, gr_S] <;> omega) | fail) only [l21_16, r21_13, r21_14, r21_15, loadV_ptr, storeV_ptr, List.append_assoc, List.length_append, List.length_cons, List.length_nil, List.set_cons_zero, List.set_cons_succ, tk_here, tk_app, gr_here, gr_app, st_here, st_app, t1, ti, t3, hlt', go_sem, ↓reduceIte, Nat.reduceLT, Nat.reduceEqDiff, Nat.reduceAdd, Nat.reduceMul, Nat.reduceSub, Int.reduceAdd, Int.reduceSub, Nat.reduceLeDiff, Int.reduceLT, Int.reduceLE, Int.reduceEq, Int.reduceNeg, Int.reduceToNat]
        exact ⟨_, by omega, i + 1, _, rfl, hlt, rfl, rfl⟩
      · obtain rfl : i = c.secrets.length := by omega
        simp (disch := first | rfl | omega | exact lt_new _ | assumption | decide | (simp [tk_here, tk_app, tk_0, tk_S, gr_here, gr_app, gr_0, gr_S] <;> omega) | fail) only [l21_16, r21_13, r21_17, loadV_ptr, storeV_ptr, List.append_assoc, List.length_append, List.length_cons, List.length_nil, List.set_cons_zero, List.set_cons_succ, tk_here, tk_app, gr_here, gr_app, st_here, st_app, t1, ti, t3, Int.lt_irrefl, go_sem, ↓reduceIte, Nat.reduceLT, Nat.reduceEqDiff, Nat.reduceAdd, Nat.reduceMul, Nat.reduceSub, Int.reduceAdd, Int.reduceSub, Nat.reduceLeDiff, Int.reduceLT, Int.reduceLE, Int.reduceEq, Int.reduceNeg, Int.reduceToNat]
        refine Wp_loop (fun m T D H' => ∃ i n, m = c.packets.length - i ∧ i ≤ c.packets.length ∧ D = [] ∧ H' = H ++ [.row 0 (cpE.f c) true] ∧ get T 1 = .ptr H.length 0 0 ∧ get T 7 = .int .i64 i ∧ get T 3 = .int .i64 n) ?_ c.packets.length _ _ _ ?_
        case refine_2 => exact ⟨0, _, by simp (disch := first | rfl | omega | exact lt_new _ | assumption | decide | (simp [tk_here, tk_app, tk_0, tk_S, gr_here, gr_app, gr_0, gr_S] <;> omega) | fail) only [go_sem, ↓reduceIte, Nat.reduceLT, Nat.reduceEqDiff, Nat.reduceAdd, Nat.reduceMul, Nat.reduceSub, Int.reduceAdd, Int.reduceSub, Nat.reduceLeDiff, Int.reduceLT, Int.reduceLE, Int.reduceEq, Int.reduceNeg, Int.reduceToNat, t1, t3]; simp; rfl⟩
        clear t1 t3 ti
        rintro m T D H' ⟨i, n, rfl, hi, rfl, rfl, t1, ti, t3⟩
        by_cases hlt : i < c.packets.length
        · have hlt' : (i : Int) < c.packets.length := by omega
          have q1 := (o4 _ (pkE.at_mem hlt)).2.2.2.2
          simp (disch := first | rfl | omega | exact lt_new _ | assumption | decide | (simp [tk_here, tk_app, tk_0, tk_S, gr_here, gr_app, gr_0, gr_S] <;> omega) | fail) only [l21_21, r21_18, r21_19, r21_20, loadV_ptr, storeV_ptr, List.append_assoc, List.length_append, List.length_cons, List.length_nil, List.set_cons_zero, List.set_cons_succ, tk_here, tk_app, gr_here, gr_app, st_here, st_app, t1, ti, t3, hlt', go_sem, ↓reduceIte, Nat.reduceLT, Nat.reduceEqDiff, Nat.reduceAdd, Nat.reduceMul, Nat.reduceSub, Int.reduceAdd, Int.reduceSub, Nat.reduceLeDiff, Int.reduceLT, Int.reduceLE, Int.reduceEq, Int.reduceNeg, Int.reduceToNat]
          exact ⟨_, by omega, i + 1, _, rfl, hlt, rfl, rfl⟩
        · obtain rfl : i = c.packets.length := by omega
          simp (disch := first | rfl | omega | exact lt_new _ | assumption | decide | (simp [tk_here, tk_app, tk_0, tk_S, gr_here, gr_app, gr_0, gr_S] <;> omega) | fail) only [l21_21, r21_18, r21_22, rs21, gc21, loadV_ptr, storeV_ptr, List.append_assoc, List.length_append, List.length_cons, List.length_nil, List.set_cons_zero, List.set_cons_succ, tk_here, tk_app, gr_here, gr_app, st_here, st_app, t1, ti, t3, Int.lt_irrefl, go_sem, ↓reduceIte, Nat.reduceLT, Nat.reduceEqDiff, Nat.reduceAdd, Nat.reduceMul, Nat.reduceSub, Int.reduceAdd, Int.reduceSub, Nat.reduceLeDiff, Int.reduceLT, Int.reduceLE, Int.reduceEq, Int.reduceNeg, Int.reduceToNat]
          exact ⟨n, finQ_app (by simp (disch := first | rfl | omega | exact lt_new _ | assumption | decide | (simp [tk_here, tk_app, tk_0, tk_S, gr_here, gr_app, gr_0, gr_S] <;> omega) | fail) only [go_sem, ↓reduceIte, Nat.reduceLT, Nat.reduceEqDiff, Nat.reduceAdd, Nat.reduceMul, Nat.reduceSub, Int.reduceAdd, Int.reduceSub, Nat.reduceLeDiff, Int.reduceLT, Int.reduceLE, Int.reduceEq, Int.reduceNeg, Int.reduceToNat])⟩
theorem fn64 {b b' : Bool} {l l' : List UInt8} (H : Hp) : callL Try.prog pr 64 [slV b byE l, slV b' byE l'] H = some (.bool (decide (l = l')), H) := by
  refine run64 (Nat.le_of_ble_eq_true rfl) ?_
  simp (disch := first | rfl | omega | exact lt_new _ | assumption | decide | (simp [tk_here, tk_app, tk_0, tk_S, gr_here, gr_app, gr_0, gr_S] <;> omega) | fail) only [r64_0, r64_1, c64, rs64, gc64, go_sem, ↓reduceIte, Nat.reduceLT, Nat.reduceEqDiff, Nat.reduceAdd, Nat.reduceMul, Nat.reduceSub, Int.reduceAdd, Int.reduceSub, Nat.reduceLeDiff, Int.reduceLT, Int.reduceLE, Int.reduceEq, Int.reduceNeg, Int.reduceToNat]
  repeat' ((first | refine guardB_dec (fun hy => ?_) (fun hy => ?_) | refine guardB_bool (fun hy => ?_) (fun hy => ?_) | refine guardQ_ite (fun hy => ?_) (fun hy => ?_) | refine brQ_dec (fun hy => ?_) (fun hy => ?_) | refine brQ_bool (fun hy => ?_) (fun hy => ?_)) <;> (try simp only [Bool.not_eq_true', Bool.not_eq_false', Bool.and_eq_true, Bool.or_eq_false_iff, decide_eq_true_eq, decide_eq_false_iff_not] at hy) <;> simp (disch := first | rfl | omega | exact lt_new _ | assumption | decide | (simp [tk_here, tk_app, tk_0, tk_S, gr_here, gr_app, gr_0, gr_S] <;> omega) | fail) only [r64_0, r64_1, c64, rs64, gc64, go_sem, ↓reduceIte, Nat.reduceLT, Nat.reduceEqDiff, Nat.reduceAdd, Nat.reduceMul, Nat.reduceSub, Int.reduceAdd, Int.reduceSub, Nat.reduceLeDiff, Int.reduceLT, Int.reduceLE, Int.reduceEq, Int.reduceNeg, Int.reduceToNat, hy])
  all_goals (try ((first | refine finQ_same ?_ | refine finQ_app ?_ | (rw [List.append_assoc]; refine finQ_app ?_)) <;> simp (disch := first | rfl | omega | exact lt_new _ | assumption | decide | (simp [tk_here, tk_app, tk_0, tk_S, gr_here, gr_app, gr_0, gr_S] <;> omega) | fail) only [go_sem, ↓reduceIte, Nat.reduceLT, Nat.reduceEqDiff, Nat.reduceAdd, Nat.reduceMul, Nat.reduceSub, Int.reduceAdd, Int.reduceSub, Nat.reduceLeDiff, Int.reduceLT, Int.reduceLE, Int.reduceEq, Int.reduceNeg, Int.reduceToNat, List.append_assoc, List.cons_append, List.nil_append, *]))
  all_goals (try first | rfl | (simp [*]; done) | grind)
def pkS (p q : Pk) : Bool := decide (p.time = q.time) && decide (p.face = q.face) && decide (p.real = q.real) && decide (p.note = q.note) && decide (p.data = q.data)
def nmS (p q : Nm) : Bool := decide (p.text = q.text) && decide (p.addr = q.addr)
def scS (p q : Sc) : Bool := decide (p.label = q.label) && decide (p.key = q.key)
def fcS (p q : Fc) : Bool := decide (p = q)
def sameB (c d : Cp) : Bool := decide (c.note = d.note) && sameL fcS c.faces d.faces && sameL nmS c.names d.names && sameL scS c.secrets d.secrets && sameL pkS c.packets d.packets
theorem fn65 (p q : Pk) (H : Hp) : callL Try.prog pr 65 [.agg (pkE.f p), .agg (pkE.f q)] H = some (.bool (pkS p q), H) := by
  have h64 := fun H => fn64 (b := p.dataN) (b' := q.dataN) (l := p.data) (l' := q.data) H
  refine run65 (Nat.le_of_ble_eq_true rfl) ?_
  unfold pkS
  simp (disch := first | rfl | omega | exact lt_new _ | assumption | decide | (simp [tk_here, tk_app, tk_0, tk_S, gr_here, gr_app, gr_0, gr_S] <;> omega) | fail) only [r65_0, r65_1, c65, rs65, gc65, h64, go_sem, ↓reduceIte, Nat.reduceLT, Nat.reduceEqDiff, Nat.reduceAdd, Nat.reduceMul, Nat.reduceSub, Int.reduceAdd, Int.reduceSub, Nat.reduceLeDiff, Int.reduceLT, Int.reduceLE, Int.reduceEq, Int.reduceNeg, Int.reduceToNat]
  repeat' ((first | refine guardB_dec (fun hy => ?_) (fun hy => ?_) | refine guardB_bool (fun hy => ?_) (fun hy => ?_) | refine guardQ_ite (fun hy => ?_) (fun hy => ?_) | refine brQ_dec (fun hy => ?_) (fun hy => ?_) | refine brQ_bool (fun hy => ?_) (fun hy => ?_)) <;> (try simp only [Bool.not_eq_true', Bool.not_eq_false', Bool.and_eq_true, Bool.or_eq_false_iff, decide_eq_true_eq, decide_eq_false_iff_not] at hy) <;> simp (disch := first | rfl | omega | exact lt_new _ | assumption | decide | (simp [tk_here, tk_app, tk_0, tk_S, gr_here, gr_app, gr_0, gr_S] <;> omega) | fail) only [r65_0, r65_1, c65, rs65, gc65, h64, go_sem, ↓reduceIte, Nat.reduceLT, Nat.reduceEqDiff, Nat.reduceAdd, Nat.reduceMul, Nat.reduceSub, Int.reduceAdd, Int.reduceSub, Nat.reduceLeDiff, Int.reduceLT, Int.reduceLE, Int.reduceEq, Int.reduceNeg, Int.reduceToNat, hy])
  all_goals (try ((first | refine finQ_same ?_ | refine finQ_app ?_ | (rw [List.append_assoc]; refine finQ_app ?_)) <;> simp (disch := first | rfl | omega | exact lt_new _ | assumption | decide | (simp [tk_here, tk_app, tk_0, tk_S, gr_here, gr_app, gr_0, gr_S] <;> omega) | fail) only [go_sem, ↓reduceIte, Nat.reduceLT, Nat.reduceEqDiff, Nat.reduceAdd, Nat.reduceMul, Nat.reduceSub, Int.reduceAdd, Int.reduceSub, Nat.reduceLeDiff, Int.reduceLT, Int.reduceLE, Int.reduceEq, Int.reduceNeg, Int.reduceToNat, List.append_assoc, List.cons_append, List.nil_append, *]))
  all_goals (try first | rfl | (simp [*]; done) | grind)
@[go_sem] theorem ck_fcE (x : Fc) : ckOks [.str, .int .i64, .int .i64] (fcE.f x) = true := rfl
@[go_sem] theorem eq_fcE (x y : Fc) : eqCells (fcE.f x) (fcE.f y) = fcS x y := by
  obtain ⟨a, b, c⟩ := x
  obtain ⟨a', b', c'⟩ := y
  simp only [fcE_f, fcS, eqCells_cons, eqCells_nil, eqCell_str, eqCell_int, Fc.mk.injEq, Bool.decide_and, Bool.and_true]
def Fits (c : Cp) : Prop := c.faces.length ≤ 2 ^ 62 ∧ c.names.length ≤ 2 ^ 62 ∧ c.secrets.length ≤ 2 ^ 62 ∧ c.packets.length ≤ 2 ^ 62
theorem CpOk.fits {c : Cp} (h : CpOk c) : Fits c := by
  obtain ⟨o0, o1, o1l, o2, o2l, o3, o3l, o4, o4l⟩ := h
  exact ⟨by omega, by omega, by omega, by omega⟩
set_option maxHeartbeats 8000000 in
theorem fn18 (c d : Cp) (hF : Fits c) (H : Hp) : callL Try.prog pr 18 [.agg (cpE.f c), .agg (cpE.f d)] H = some (.bool (sameB c d), H) := by
  obtain ⟨f1, f2, f3, f4⟩ := hF
  refine run18 (Nat.le_of_ble_eq_true rfl) ?_
  by_cases hg : c.note = d.note ∧ (c.faces.length : Int) = d.faces.length ∧ (c.names.length : Int) = d.names.length ∧ (c.secrets.length : Int) = d.secrets.length ∧ (c.packets.length : Int) = d.packets.length
  case neg =>
    have hS : sameB c d = false := by
      unfold sameB
      by_cases h0 : c.note = d.note
      · by_cases h1 : c.faces.length = d.faces.length
        · by_cases h2 : c.names.length = d.names.length
          · by_cases h3 : c.secrets.length = d.secrets.length
            · rw [sameL_len (l := c.packets) (fun e => hg ⟨h0, by omega, by omega, by omega, by omega⟩)]; simp
            · rw [sameL_len (l := c.secrets) h3]; simp
          · rw [sameL_len (l := c.names) h2]; simp
        · rw [sameL_len (l := c.faces) h1]; simp
      · simp [h0]
    rw [hS]
    have g5 : c.note = d.note → (c.faces.length : Int) = d.faces.length → (c.names.length : Int) = d.names.length → (c.secrets.length : Int) = d.secrets.length → ¬ (c.packets.length : Int) = d.packets.length := fun a b e f g => hg ⟨a, b, e, f, g⟩
    simp (disch := first | rfl | omega | exact lt_new _ | assumption | decide | (simp [tk_here, tk_app, tk_0, tk_S, gr_here, gr_app, gr_0, gr_S] <;> omega) | fail) only [r18_0, r18_1, r18_2, c18, rs18, gc18, loadV_ptr, storeV_ptr, List.append_assoc, List.length_append, List.length_cons, List.length_nil, List.set_cons_zero, List.set_cons_succ, tk_here, tk_app, gr_here, gr_app, st_here, st_app, g5, go_sem, ↓reduceIte, Nat.reduceLT, Nat.reduceEqDiff, Nat.reduceAdd, Nat.reduceMul, Nat.reduceSub, Int.reduceAdd, Int.reduceSub, Nat.reduceLeDiff, Int.reduceLT, Int.reduceLE, Int.reduceEq, Int.reduceNeg, Int.reduceToNat]
    repeat' ((first | refine guardB_dec (fun hy => ?_) (fun hy => ?_) | refine guardB_bool (fun hy => ?_) (fun hy => ?_) | refine guardQ_ite (fun hy => ?_) (fun hy => ?_) | refine brQ_dec (fun hy => ?_) (fun hy => ?_) | refine brQ_bool (fun hy => ?_) (fun hy => ?_)) <;> (try simp only [Bool.not_eq_true', Bool.not_eq_false', Bool.and_eq_true, Bool.or_eq_false_iff, decide_eq_true_eq, decide_eq_false_iff_not] at hy) <;> simp (disch := first | rfl | omega | exact lt_new _ | assumption | decide | (simp [tk_here, tk_app, tk_0, tk_S, gr_here, gr_app, gr_0, gr_S] <;> omega) | fail) only [r18_0, r18_1, r18_2, c18, rs18, gc18, loadV_ptr, storeV_ptr, List.append_assoc, List.length_append, List.length_cons, List.length_nil, List.set_cons_zero, List.set_cons_succ, tk_here, tk_app, gr_here, gr_app, st_here, st_app, g5, go_sem, ↓reduceIte, Nat.reduceLT, Nat.reduceEqDiff, Nat.reduceAdd, Nat.reduceMul, Nat.reduceSub, Int.reduceAdd, Int.reduceSub, Nat.reduceLeDiff, Int.reduceLT, Int.reduceLE, Int.reduceEq, Int.reduceNeg, Int.reduceToNat, hy])
    all_goals (refine finQ_app ?_; simp (disch := first | rfl | omega | exact lt_new _ | assumption | decide | (simp [tk_here, tk_app, tk_0, tk_S, gr_here, gr_app, gr_0, gr_S] <;> omega) | fail) only [go_sem, ↓reduceIte, Nat.reduceLT, Nat.reduceEqDiff, Nat.reduceAdd, Nat.reduceMul, Nat.reduceSub, Int.reduceAdd, Int.reduceSub, Nat.reduceLeDiff, Int.reduceLT, Int.reduceLE, Int.reduceEq, Int.reduceNeg, Int.reduceToNat])
  obtain ⟨g1, g2, g3, g4, g5⟩ := hg
  simp (disch := first | rfl | omega | exact lt_new _ | assumption | decide | (simp [tk_here, tk_app, tk_0, tk_S, gr_here, gr_app, gr_0, gr_S] <;> omega) | fail) only [r18_0, r18_1, r18_3, c18, loadV_ptr, storeV_ptr, List.append_assoc, List.length_append, List.length_cons, List.length_nil, List.set_cons_zero, List.set_cons_succ, tk_here, tk_app, gr_here, gr_app, st_here, st_app, g1, g2, g3, g4, g5, go_sem, ↓reduceIte, Nat.reduceLT, Nat.reduceEqDiff, Nat.reduceAdd, Nat.reduceMul, Nat.reduceSub, Int.reduceAdd, Int.reduceSub, Nat.reduceLeDiff, Int.reduceLT, Int.reduceLE, Int.reduceEq, Int.reduceNeg, Int.reduceToNat]
  repeat' ((first | refine guardB_dec (fun hy => ?_) (fun hy => ?_) | refine guardB_bool (fun hy => ?_) (fun hy => ?_) | refine guardQ_ite (fun hy => ?_) (fun hy => ?_) | refine brQ_dec (fun hy => ?_) (fun hy => ?_) | refine brQ_bool (fun hy => ?_) (fun hy => ?_)) <;> (try simp only [Bool.not_eq_true', Bool.not_eq_false', Bool.and_eq_true, Bool.or_eq_false_iff, decide_eq_true_eq, decide_eq_false_iff_not] at hy) <;> simp (disch := first | rfl | omega | exact lt_new _ | assumption | decide | (simp [tk_here, tk_app, tk_0, tk_S, gr_here, gr_app, gr_0, gr_S] <;> omega) | fail) only [r18_0, r18_1, r18_3, c18, loadV_ptr, storeV_ptr, List.append_assoc, List.length_append, List.length_cons, List.length_nil, List.set_cons_zero, List.set_cons_succ, tk_here, tk_app, gr_here, gr_app, st_here, st_app, g1, g2, g3, g4, g5, go_sem, ↓reduceIte, Nat.reduceLT, Nat.reduceEqDiff, Nat.reduceAdd, Nat.reduceMul, Nat.reduceSub, Int.reduceAdd, Int.reduceSub, Nat.reduceLeDiff, Int.reduceLT, Int.reduceLE, Int.reduceEq, Int.reduceNeg, Int.reduceToNat, hy])
  refine Wp_loop (fun m T D H' => ∃ i, m = c.faces.length - i ∧ i ≤ c.faces.length ∧ D = [] ∧ H' = H ++ [.row 0 (cpE.f c) true] ∧ get T 2 = .ptr H.length 0 0 ∧ get T 3 = .ipt (cpE.f d) 0 ∧ get T 5 = .int .i64 i ∧ sameL fcS c.faces d.faces = sameL fcS (c.faces.drop i) (d.faces.drop i)) ?_ c.faces.length _ _ _ ?_
  case refine_2 => exact ⟨0, by simp (disch := first | rfl | omega | exact lt_new _ | assumption | decide | (simp [tk_here, tk_app, tk_0, tk_S, gr_here, gr_app, gr_0, gr_S] <;> omega) | fail) only [go_sem, ↓reduceIte, Nat.reduceLT, Nat.reduceEqDiff, Nat.reduceAdd, Nat.reduceMul, Nat.reduceSub, Int.reduceAdd, Int.reduceSub, Nat.reduceLeDiff, Int.reduceLT, Int.reduceLE, Int.reduceEq, Int.reduceNeg, Int.reduceToNat]; simp⟩
  rintro m T D H' ⟨i, rfl, hi, rfl, rfl, t2, t3, ti, hs⟩
  by_cases hlt : i < c.faces.length
  · have hlt' : (i : Int) < c.faces.length := by omega
    have hlt2 : (i : Int) < d.faces.length := by omega
    have hlt3 : i < d.faces.length := by omega
    rw [sameL_drop fcE hlt hlt3] at hs
    obtain ⟨x, hx⟩ : ∃ x, fcE.at c.faces i = x := ⟨_, rfl⟩
    obtain ⟨y, hy2⟩ : ∃ x, fcE.at d.faces i = x := ⟨_, rfl⟩
    rw [hx, hy2] at hs
    by_cases hq : fcS x y = true
    · rw [hq, Bool.true_and] at hs
      simp (disch := first | rfl | omega | exact lt_new _ | assumption | decide | (simp [tk_here, tk_app, tk_0, tk_S, gr_here, gr_app, gr_0, gr_S] <;> omega) | fail) only [l18_8, r18_4, r18_5, r18_7, loadV_ptr, storeV_ptr, List.append_assoc, List.length_append, List.length_cons, List.length_nil, List.set_cons_zero, List.set_cons_succ, tk_here, tk_app, gr_here, gr_app, st_here, st_app, t2, t3, ti, hlt', hx, hy2, hq, go_sem, ↓reduceIte, Nat.reduceLT, Nat.reduceEqDiff, Nat.reduceAdd, Nat.reduceMul, Nat.reduceSub, Int.reduceAdd, Int.reduceSub, Nat.reduceLeDiff, Int.reduceLT, Int.reduceLE, Int.reduceEq, Int.reduceNeg, Int.reduceToNat]
      repeat' ((first | refine guardB_dec (fun hy => ?_) (fun hy => ?_) | refine guardB_bool (fun hy => ?_) (fun hy => ?_) | refine guardQ_ite (fun hy => ?_) (fun hy => ?_) | refine brQ_dec (fun hy => ?_) (fun hy => ?_) | refine brQ_bool (fun hy => ?_) (fun hy => ?_)) <;> (try simp only [Bool.not_eq_true', Bool.not_eq_false', Bool.and_eq_true, Bool.or_eq_false_iff, decide_eq_true_eq, decide_eq_false_iff_not] at hy) <;> simp (disch := first | rfl | omega | exact lt_new _ | assumption | decide | (simp [tk_here, tk_app, tk_0, tk_S, gr_here, gr_app, gr_0, gr_S] <;> omega) | fail) only [l18_8, r18_4, r18_5, r18_7, loadV_ptr, storeV_ptr, List.append_assoc, List.length_append, List.length_cons, List.length_nil, List.set_cons_zero, List.set_cons_succ, tk_here, tk_app, gr_here, gr_app, st_here, st_app, t2, t3, ti, hlt', hx, hy2, hq, go_sem, ↓reduceIte, Nat.reduceLT, Nat.reduceEqDiff, Nat.reduceAdd, Nat.reduceMul, Nat.reduceSub, Int.reduceAdd, Int.reduceSub, Nat.reduceLeDiff, Int.reduceLT, Int.reduceLE, Int.reduceEq, Int.reduceNeg, Int.reduceToNat, hy])
      exact ⟨_, by omega, i + 1, rfl, hlt, rfl, hs⟩
    · have hS : sameB c d = false := by unfold sameB; rw [hs, Bool.eq_false_iff.2 hq]; simp
      simp (disch := first | rfl | omega | exact lt_new _ | assumption | decide | (simp [tk_here, tk_app, tk_0, tk_S, gr_here, gr_app, gr_0, gr_S] <;> omega) | fail) only [l18_8, r18_4, r18_5, r18_7, r18_6, rs18, gc18, loadV_ptr, storeV_ptr, List.append_assoc, List.length_append, List.length_cons, List.length_nil, List.set_cons_zero, List.set_cons_succ, tk_here, tk_app, gr_here, gr_app, st_here, st_app, t2, t3, ti, hlt', hx, hy2, hq, go_sem, ↓reduceIte, Nat.reduceLT, Nat.reduceEqDiff, Nat.reduceAdd, Nat.reduceMul, Nat.reduceSub, Int.reduceAdd, Int.reduceSub, Nat.reduceLeDiff, Int.reduceLT, Int.reduceLE, Int.reduceEq, Int.reduceNeg, Int.reduceToNat]
      repeat' ((first | refine guardB_dec (fun hy => ?_) (fun hy => ?_) | refine guardB_bool (fun hy => ?_) (fun hy => ?_) | refine guardQ_ite (fun hy => ?_) (fun hy => ?_) | refine brQ_dec (fun hy => ?_) (fun hy => ?_) | refine brQ_bool (fun hy => ?_) (fun hy => ?_)) <;> (try simp only [Bool.not_eq_true', Bool.not_eq_false', Bool.and_eq_true, Bool.or_eq_false_iff, decide_eq_true_eq, decide_eq_false_iff_not] at hy) <;> simp (disch := first | rfl | omega | exact lt_new _ | assumption | decide | (simp [tk_here, tk_app, tk_0, tk_S, gr_here, gr_app, gr_0, gr_S] <;> omega) | fail) only [l18_8, r18_4, r18_5, r18_7, r18_6, rs18, gc18, loadV_ptr, storeV_ptr, List.append_assoc, List.length_append, List.length_cons, List.length_nil, List.set_cons_zero, List.set_cons_succ, tk_here, tk_app, gr_here, gr_app, st_here, st_app, t2, t3, ti, hlt', hx, hy2, hq, go_sem, ↓reduceIte, Nat.reduceLT, Nat.reduceEqDiff, Nat.reduceAdd, Nat.reduceMul, Nat.reduceSub, Int.reduceAdd, Int.reduceSub, Nat.reduceLeDiff, Int.reduceLT, Int.reduceLE, Int.reduceEq, Int.reduceNeg, Int.reduceToNat, hy])
      all_goals (refine finQ_app ?_; simp (disch := first | rfl | omega | exact lt_new _ | assumption | decide | (simp [tk_here, tk_app, tk_0, tk_S, gr_here, gr_app, gr_0, gr_S] <;> omega) | fail) only [go_sem, ↓reduceIte, Nat.reduceLT, Nat.reduceEqDiff, Nat.reduceAdd, Nat.reduceMul, Nat.reduceSub, Int.reduceAdd, Int.reduceSub, Nat.reduceLeDiff, Int.reduceLT, Int.reduceLE, Int.reduceEq, Int.reduceNeg, Int.reduceToNat, hS])
  · obtain rfl : i = c.faces.length := by omega
    have hs0 : sameL fcS c.faces d.faces = true := by rw [hs, List.drop_length, List.drop_eq_nil_of_le (by omega)]; rfl
    clear hs
    simp (disch := first | rfl | omega | exact lt_new _ | assumption | decide | (simp [tk_here, tk_app, tk_0, tk_S, gr_here, gr_app, gr_0, gr_S] <;> omega) | fail) only [l18_8, r18_4, r18_9, loadV_ptr, storeV_ptr, List.append_assoc, List.length_append, List.length_cons, List.length_nil, List.set_cons_zero, List.set_cons_succ, tk_here, tk_app, gr_here, gr_app, st_here, st_app, t2, t3, ti, Int.lt_irrefl, go_sem, ↓reduceIte, Nat.reduceLT, Nat.reduceEqDiff, Nat.reduceAdd, Nat.reduceMul, Nat.reduceSub, Int.reduceAdd, Int.reduceSub, Nat.reduceLeDiff, Int.reduceLT, Int.reduceLE, Int.reduceEq, Int.reduceNeg, Int.reduceToNat]
    refine Wp_loop (fun m T D H' => ∃ i, m = c.names.length - i ∧ i ≤ c.names.length ∧ D = [] ∧ H' = H ++ [.row 0 (cpE.f c) true] ∧ get T 2 = .ptr H.length 0 0 ∧ get T 3 = .ipt (cpE.f d) 0 ∧ get T 6 = .int .i64 i ∧ sameL nmS c.names d.names = sameL nmS (c.names.drop i) (d.names.drop i)) ?_ c.names.length _ _ _ ?_
    case refine_2 => exact ⟨0, by simp (disch := first | rfl | omega | exact lt_new _ | assumption | decide | (simp [tk_here, tk_app, tk_0, tk_S, gr_here, gr_app, gr_0, gr_S] <;> omega) | fail) only [go_sem, ↓reduceIte, Nat.reduceLT, Nat.reduceEqDiff, Nat.reduceAdd, Nat.reduceMul, Nat.reduceSub, Int.reduceAdd, Int.reduceSub, Nat.reduceLeDiff, Int.reduceLT, Int.reduceLE, Int.reduceEq, Int.reduceNeg, Int.reduceToNat, t2, t3]; simp⟩
    clear t2 t3 ti
    rintro m T D H' ⟨i, rfl, hi, rfl, rfl, t2, t3, ti, hs⟩
    by_cases hlt : i < c.names.length
    · have hlt' : (i : Int) < c.names.length := by omega
      have hlt2 : (i : Int) < d.names.length := by omega
      have hlt3 : i < d.names.length := by omega
      rw [sameL_drop nmE hlt hlt3] at hs
      obtain ⟨x, hx⟩ : ∃ x, nmE.at c.names i = x := ⟨_, rfl⟩
      obtain ⟨y, hy2⟩ : ∃ x, nmE.at d.names i = x := ⟨_, rfl⟩
      rw [hx, hy2] at hs
      by_cases hq : nmS x y = true
      · rw [hq, Bool.true_and] at hs
        obtain ⟨q1, q2⟩ : x.text = y.text ∧ x.addr = y.addr := by simpa [nmS] using hq
        simp (disch := first | rfl | omega | exact lt_new _ | assumption | decide | (simp [tk_here, tk_app, tk_0, tk_S, gr_here, gr_app, gr_0, gr_S] <;> omega) | fail) only [l18_14, r18_10, r18_11, r18_13, loadV_ptr, storeV_ptr, List.append_assoc, List.length_append, List.length_cons, List.length_nil, List.set_cons_zero, List.set_cons_succ, tk_here, tk_app, gr_here, gr_app, st_here, st_app, t2, t3, ti, hlt', hx, hy2, q1, q2, fn64, go_sem, ↓reduceIte, Nat.reduceLT, Nat.reduceEqDiff, Nat.reduceAdd, Nat.reduceMul, Nat.reduceSub, Int.reduceAdd, Int.reduceSub, Nat.reduceLeDiff, Int.reduceLT, Int.reduceLE, Int.reduceEq, Int.reduceNeg, Int.reduceToNat]
        repeat' ((first | refine guardB_dec (fun hy => ?_) (fun hy => ?_) | refine guardB_bool (fun hy => ?_) (fun hy => ?_) | refine guardQ_ite (fun hy => ?_) (fun hy => ?_) | refine brQ_dec (fun hy => ?_) (fun hy => ?_) | refine brQ_bool (fun hy => ?_) (fun hy => ?_)) <;> (try simp only [Bool.not_eq_true', Bool.not_eq_false', Bool.and_eq_true, Bool.or_eq_false_iff, decide_eq_true_eq, decide_eq_false_iff_not] at hy) <;> simp (disch := first | rfl | omega | exact lt_new _ | assumption | decide | (simp [tk_here, tk_app, tk_0, tk_S, gr_here, gr_app, gr_0, gr_S] <;> omega) | fail) only [l18_14, r18_10, r18_11, r18_13, loadV_ptr, storeV_ptr, List.append_assoc, List.length_append, List.length_cons, List.length_nil, List.set_cons_zero, List.set_cons_succ, tk_here, tk_app, gr_here, gr_app, st_here, st_app, t2, t3, ti, hlt', hx, hy2, q1, q2, fn64, go_sem, ↓reduceIte, Nat.reduceLT, Nat.reduceEqDiff, Nat.reduceAdd, Nat.reduceMul, Nat.reduceSub, Int.reduceAdd, Int.reduceSub, Nat.reduceLeDiff, Int.reduceLT, Int.reduceLE, Int.reduceEq, Int.reduceNeg, Int.reduceToNat, hy])
        exact ⟨_, by omega, i + 1, rfl, hlt, rfl, hs⟩
      · have hS : sameB c d = false := by unfold sameB; rw [hs, Bool.eq_false_iff.2 hq]; simp
        have q2 : x.text = y.text → ¬ x.addr = y.addr := fun a b => hq (by simp [nmS, a, b])
        simp (disch := first | rfl | omega | exact lt_new _ | assumption | decide | (simp [tk_here, tk_app, tk_0, tk_S, gr_here, gr_app, gr_0, gr_S] <;> omega) | fail) only [l18_14, r18_10, r18_11, r18_13, r18_12, rs18, gc18, loadV_ptr, storeV_ptr, List.append_assoc, List.length_append, List.length_cons, List.length_nil, List.set_cons_zero, List.set_cons_succ, tk_here, tk_app, gr_here, gr_app, st_here, st_app, t2, t3, ti, hlt', hx, hy2, q2, fn64, go_sem, ↓reduceIte, Nat.reduceLT, Nat.reduceEqDiff, Nat.reduceAdd, Nat.reduceMul, Nat.reduceSub, Int.reduceAdd, Int.reduceSub, Nat.reduceLeDiff, Int.reduceLT, Int.reduceLE, Int.reduceEq, Int.reduceNeg, Int.reduceToNat]
        repeat' ((first | refine guardB_dec (fun hy => ?_) (fun hy => ?_) | refine guardB_bool (fun hy => ?_) (fun hy => ?_) | refine guardQ_ite (fun hy => ?_) (fun hy => ?_) | refine brQ_dec (fun hy => ?_) (fun hy => ?_) | refine brQ_bool (fun hy => ?_) (fun hy => ?_)) <;> (try simp only [Bool.not_eq_true', Bool.not_eq_false', Bool.and_eq_true, Bool.or_eq_false_iff, decide_eq_true_eq, decide_eq_false_iff_not] at hy) <;> simp (disch := first | rfl | omega | exact lt_new _ | assumption | decide | (simp [tk_here, tk_app, tk_0, tk_S, gr_here, gr_app, gr_0, gr_S] <;> omega) | fail) only [l18_14, r18_10, r18_11, r18_13, r18_12, rs18, gc18, loadV_ptr, storeV_ptr, List.append_assoc, List.length_append, List.length_cons, List.length_nil, List.set_cons_zero, List.set_cons_succ, tk_here, tk_app, gr_here, gr_app, st_here, st_app, t2, t3, ti, hlt', hx, hy2, q2, fn64, go_sem, ↓reduceIte, Nat.reduceLT, Nat.reduceEqDiff, Nat.reduceAdd, Nat.reduceMul, Nat.reduceSub, Int.reduceAdd, Int.reduceSub, Nat.reduceLeDiff, Int.reduceLT, Int.reduceLE, Int.reduceEq, Int.reduceNeg, Int.reduceToNat, hy])
        all_goals (refine finQ_app ?_; simp (disch := first | rfl | omega | exact lt_new _ | assumption | decide | (simp [tk_here, tk_app, tk_0, tk_S, gr_here, gr_app, gr_0, gr_S] <;> omega) | fail) only [go_sem, ↓reduceIte, Nat.reduceLT, Nat.reduceEqDiff, Nat.reduceAdd, Nat.reduceMul, Nat.reduceSub, Int.reduceAdd, Int.reduceSub, Nat.reduceLeDiff, Int.reduceLT, Int.reduceLE, Int.reduceEq, Int.reduceNeg, Int.reduceToNat, hS])
    · obtain rfl : i = c.names.length := by omega
      have hs1 : sameL nmS c.names d.names = true := by rw [hs, List.drop_length, List.drop_eq_nil_of_le (by omega)]; rfl
      clear hs
      simp (disch := first | rfl | omega | exact lt_new _ | assumption | decide | (simp [tk_here, tk_app, tk_0, tk_S, gr_here, gr_app, gr_0, gr_S] <;> omega) | fail) only [l18_14, r18_10, r18_15, loadV_ptr, storeV_ptr, List.append_assoc, List.length_append, List.length_cons, List.length_nil, List.set_cons_zero, List.set_cons_succ, tk_here, tk_app, gr_here, gr_app, st_here, st_app, t2, t3, ti, Int.lt_irrefl, go_sem, ↓reduceIte, Nat.reduceLT, Nat.reduceEqDiff, Nat.reduceAdd, Nat.reduceMul, Nat.reduceSub, Int.reduceAdd, Int.reduceSub, Nat.reduceLeDiff, Int.reduceLT, Int.reduceLE, Int.reduceEq, Int.reduceNeg, Int.reduceToNat]
      refine Wp_loop (fun m T D H' => ∃ i, m = c.secrets.length - i ∧ i ≤ c.secrets.length ∧ D = [] ∧ H' = H ++ [.row 0 (cpE.f c) true] ∧ get T 2 = .ptr H.length 0 0 ∧ get T 3 = .ipt (cpE.f d) 0 ∧ get T 7 = .int .i64 i ∧ sameL scS c.secrets d.secrets = sameL scS (c.secrets.drop i) (d.secrets.drop i)) ?_ c.secrets.length _ _ _ ?_
      case refine_2 => exact ⟨0, by simp (disch := first | rfl | omega | exact lt_new _ | assumption | decide | (simp [tk_here, tk_app, tk_0, tk_S, gr_here, gr_app, gr_0, gr_S] <;> omega) | fail) only [go_sem, ↓reduceIte, Nat.reduceLT, Nat.reduceEqDiff, Nat.reduceAdd, Nat.reduceMul, Nat.reduceSub, Int.reduceAdd, Int.reduceSub, Nat.reduceLeDiff, Int.reduceLT, Int.reduceLE, Int.reduceEq, Int.reduceNeg, Int.reduceToNat, t2, t3]; simp⟩
      clear t2 t3 ti
      rintro m T D H' ⟨i, rfl, hi, rfl, rfl, t2, t3, ti, hs⟩
      by_cases hlt : i < c.secrets.length
      · have hlt' : (i : Int) < c.secrets.length := by omega
        have hlt2 : (i : Int) < d.secrets.length := by omega
        have hlt3 : i < d.secrets.length := by omega
        rw [sameL_drop scE hlt hlt3] at hs
        obtain ⟨x, hx⟩ : ∃ x, scE.at c.secrets i = x := ⟨_, rfl⟩
        obtain ⟨y, hy2⟩ : ∃ x, scE.at d.secrets i = x := ⟨_, rfl⟩
        rw [hx, hy2] at hs
        by_cases hq : scS x y = true
        · rw [hq, Bool.true_and] at hs
          obtain ⟨q1, q2⟩ : x.label = y.label ∧ x.key = y.key := by simpa [scS] using hq
          simp (disch := first | rfl | omega | exact lt_new _ | assumption | decide | (simp [tk_here, tk_app, tk_0, tk_S, gr_here, gr_app, gr_0, gr_S] <;> omega) | fail) only [l18_20, r18_16, r18_17, r18_19, loadV_ptr, storeV_ptr, List.append_assoc, List.length_append, List.length_cons, List.length_nil, List.set_cons_zero, List.set_cons_succ, tk_here, tk_app, gr_here, gr_app, st_here, st_app, t2, t3, ti, hlt', hx, hy2, q1, q2, fn64, go_sem, ↓reduceIte, Nat.reduceLT, Nat.reduceEqDiff, Nat.reduceAdd, Nat.reduceMul, Nat.reduceSub, Int.reduceAdd, Int.reduceSub, Nat.reduceLeDiff, Int.reduceLT, Int.reduceLE, Int.reduceEq, Int.reduceNeg, Int.reduceToNat]
          repeat' ((first | refine guardB_dec (fun hy => ?_) (fun hy => ?_) | refine guardB_bool (fun hy => ?_) (fun hy => ?_) | refine guardQ_ite (fun hy => ?_) (fun hy => ?_) | refine brQ_dec (fun hy => ?_) (fun hy => ?_) | refine brQ_bool (fun hy => ?_) (fun hy => ?_)) <;> (try simp only [Bool.not_eq_true', Bool.not_eq_false', Bool.and_eq_true, Bool.or_eq_false_iff, decide_eq_true_eq, decide_eq_false_iff_not] at hy) <;> simp (disch := first | rfl | omega | exact lt_new _ | assumption | decide | (simp [tk_here, tk_app, tk_0, tk_S, gr_here, gr_app, gr_0, gr_S] <;> omega) | fail) only [l18_20, r18_16, r18_17, r18_19, loadV_ptr, storeV_ptr, List.append_assoc, List.length_append, List.length_cons, List.length_nil, List.set_cons_zero, List.set_cons_succ, tk_here, tk_app, gr_here, gr_app, st_here, st_app, t2, t3, ti, hlt', hx, hy2, q1, q2, fn64, go_sem, ↓reduceIte, Nat.reduceLT, Nat.reduceEqDiff, Nat.reduceAdd, Nat.reduceMul, Nat.reduceSub, Int.reduceAdd, Int.reduceSub, Nat.reduceLeDiff, Int.reduceLT, Int.reduceLE, Int.reduceEq, Int.reduceNeg, Int.reduceToNat, hy])
          exact ⟨_, by omega, i + 1, rfl, hlt, rfl, hs⟩
        · have hS : sameB c d = false := by unfold sameB; rw [hs, Bool.eq_false_iff.2 hq]; simp
          have q2 : x.label = y.label → ¬ x.key = y.key := fun a b => hq (by simp [scS, a, b])
          simp (disch := first | rfl | omega | exact lt_new _ | assumption | decide | (simp [tk_here, tk_app, tk_0, tk_S, gr_here, gr_app, gr_0, gr_S] <;> omega) | fail) only [l18_20, r18_16, r18_17, r18_19, r18_18, rs18, gc18, loadV_ptr, storeV_ptr, List.append_assoc, List.length_append, List.length_cons, List.length_nil, List.set_cons_zero, List.set_cons_succ, tk_here, tk_app, gr_here, gr_app, st_here, st_app, t2, t3, ti, hlt', hx, hy2, q2, fn64, go_sem, ↓reduceIte, Nat.reduceLT, Nat.reduceEqDiff, Nat.reduceAdd, Nat.reduceMul, Nat.reduceSub, Int.reduceAdd, Int.reduceSub, Nat.reduceLeDiff, Int.reduceLT, Int.reduceLE, Int.reduceEq, Int.reduceNeg, Int.reduceToNat]
          repeat' ((first | refine guardB_dec (fun hy => ?_) (fun hy => ?_) | refine guardB_bool (fun hy => ?_) (fun hy => ?_) | refine guardQ_ite (fun hy => ?_) (fun hy => ?_) | refine brQ_dec (fun hy => ?_) (fun hy => ?_) | refine brQ_bool (fun hy => ?_) (fun hy => ?_)) <;> (try simp only [Bool.not_eq_true', Bool.not_eq_false', Bool.and_eq_true, Bool.or_eq_false_iff, decide_eq_true_eq, decide_eq_false_iff_not] at hy) <;> simp (disch := first | rfl | omega | exact lt_new _ | assumption | decide | (simp [tk_here, tk_app, tk_0, tk_S, gr_here, gr_app, gr_0, gr_S] <;> omega) | fail) only [l18_20, r18_16, r18_17, r18_19, r18_18, rs18, gc18, loadV_ptr, storeV_ptr, List.append_assoc, List.length_append, List.length_cons, List.length_nil, List.set_cons_zero, List.set_cons_succ, tk_here, tk_app, gr_here, gr_app, st_here, st_app, t2, t3, ti, hlt', hx, hy2, q2, fn64, go_sem, ↓reduceIte, Nat.reduceLT, Nat.reduceEqDiff, Nat.reduceAdd, Nat.reduceMul, Nat.reduceSub, Int.reduceAdd, Int.reduceSub, Nat.reduceLeDiff, Int.reduceLT, Int.reduceLE, Int.reduceEq, Int.reduceNeg, Int.reduceToNat, hy])
          all_goals (refine finQ_app ?_; simp (disch := first | rfl | omega | exact lt_new _ | assumption | decide | (simp [tk_here, tk_app, tk_0, tk_S, gr_here, gr_app, gr_0, gr_S] <;> omega) | fail) only [go_sem, ↓reduceIte, Nat.reduceLT, Nat.reduceEqDiff, Nat.reduceAdd, Nat.reduceMul, Nat.reduceSub, Int.reduceAdd, Int.reduceSub, Nat.reduceLeDiff, Int.reduceLT, Int.reduceLE, Int.reduceEq, Int.reduceNeg, Int.reduceToNat, hS])
      · obtain rfl : i = c.secrets.length := by omega
        have hs2 : sameL scS c.secrets d.secrets = true := by rw [hs, List.drop_length, List.drop_eq_nil_of_le (by omega)]; rfl
        clear hs
        simp (disch := first | rfl | omega | exact lt_new _ | assumption | decide | (simp [tk_here, tk_app, tk_0, tk_S, gr_here, gr_app, gr_0, gr_S] <;> omega) | fail) only [l18_20, r18_16, r18_21, loadV_ptr, storeV_ptr, List.append_assoc, List.length_append, List.length_cons, List.length_nil, List.set_cons_zero, List.set_cons_succ, tk_here, tk_app, gr_here, gr_app, st_here, st_app, t2, t3, ti, Int.lt_irrefl, go_sem, ↓reduceIte, Nat.reduceLT, Nat.reduceEqDiff, Nat.reduceAdd, Nat.reduceMul, Nat.reduceSub, Int.reduceAdd, Int.reduceSub, Nat.reduceLeDiff, Int.reduceLT, Int.reduceLE, Int.reduceEq, Int.reduceNeg, Int.reduceToNat]
        refine Wp_loop (fun m T D H' => ∃ i, m = c.packets.length - i ∧ i ≤ c.packets.length ∧ D = [] ∧ H' = H ++ [.row 0 (cpE.f c) true] ∧ get T 2 = .ptr H.length 0 0 ∧ get T 3 = .ipt (cpE.f d) 0 ∧ get T 8 = .int .i64 i ∧ sameL pkS c.packets d.packets = sameL pkS (c.packets.drop i) (d.packets.drop i)) ?_ c.packets.length _ _ _ ?_
        case refine_2 => exact ⟨0, by simp (disch := first | rfl | omega | exact lt_new _ | assumption | decide | (simp [tk_here, tk_app, tk_0, tk_S, gr_here, gr_app, gr_0, gr_S] <;> omega) | fail) only [go_sem, ↓reduceIte, Nat.reduceLT, Nat.reduceEqDiff, Nat.reduceAdd, Nat.reduceMul, Nat.reduceSub, Int.reduceAdd, Int.reduceSub, Nat.reduceLeDiff, Int.reduceLT, Int.reduceLE, Int.reduceEq, Int.reduceNeg, Int.reduceToNat, t2, t3]; simp⟩
        clear t2 t3 ti
        rintro m T D H' ⟨i, rfl, hi, rfl, rfl, t2, t3, ti, hs⟩
        by_cases hlt : i < c.packets.length
        · have hlt' : (i : Int) < c.packets.length := by omega
          have hlt2 : (i : Int) < d.packets.length := by omega
          have hlt3 : i < d.packets.length := by omega
          rw [sameL_drop pkE hlt hlt3] at hs
          obtain ⟨x, hx⟩ : ∃ x, pkE.at c.packets i = x := ⟨_, rfl⟩
          obtain ⟨y, hy2⟩ : ∃ x, pkE.at d.packets i = x := ⟨_, rfl⟩
          rw [hx, hy2] at hs
          by_cases hq : pkS x y = true
          · rw [hq, Bool.true_and] at hs
            simp (disch := first | rfl | omega | exact lt_new _ | assumption | decide | (simp [tk_here, tk_app, tk_0, tk_S, gr_here, gr_app, gr_0, gr_S] <;> omega) | fail) only [l18_26, r18_22, r18_23, r18_25, loadV_ptr, storeV_ptr, List.append_assoc, List.length_append, List.length_cons, List.length_nil, List.set_cons_zero, List.set_cons_succ, tk_here, tk_app, gr_here, gr_app, st_here, st_app, t2, t3, ti, hlt', hx, hy2, hq, fn65, go_sem, ↓reduceIte, Nat.reduceLT, Nat.reduceEqDiff, Nat.reduceAdd, Nat.reduceMul, Nat.reduceSub, Int.reduceAdd, Int.reduceSub, Nat.reduceLeDiff, Int.reduceLT, Int.reduceLE, Int.reduceEq, Int.reduceNeg, Int.reduceToNat]
            repeat' ((first | refine guardB_dec (fun hy => ?_) (fun hy => ?_) | refine guardB_bool (fun hy => ?_) (fun hy => ?_) | refine guardQ_ite (fun hy => ?_) (fun hy => ?_) | refine brQ_dec (fun hy => ?_) (fun hy => ?_) | refine brQ_bool (fun hy => ?_) (fun hy => ?_)) <;> (try simp only [Bool.not_eq_true', Bool.not_eq_false', Bool.and_eq_true, Bool.or_eq_false_iff, decide_eq_true_eq, decide_eq_false_iff_not] at hy) <;> simp (disch := first | rfl | omega | exact lt_new _ | assumption | decide | (simp [tk_here, tk_app, tk_0, tk_S, gr_here, gr_app, gr_0, gr_S] <;> omega) | fail) only [l18_26, r18_22, r18_23, r18_25, loadV_ptr, storeV_ptr, List.append_assoc, List.length_append, List.length_cons, List.length_nil, List.set_cons_zero, List.set_cons_succ, tk_here, tk_app, gr_here, gr_app, st_here, st_app, t2, t3, ti, hlt', hx, hy2, hq, fn65, go_sem, ↓reduceIte, Nat.reduceLT, Nat.reduceEqDiff, Nat.reduceAdd, Nat.reduceMul, Nat.reduceSub, Int.reduceAdd, Int.reduceSub, Nat.reduceLeDiff, Int.reduceLT, Int.reduceLE, Int.reduceEq, Int.reduceNeg, Int.reduceToNat, hy])
            exact ⟨_, by omega, i + 1, rfl, hlt, rfl, hs⟩
          · have hS : sameB c d = false := by unfold sameB; rw [hs, Bool.eq_false_iff.2 hq]; simp
            simp (disch := first | rfl | omega | exact lt_new _ | assumption | decide | (simp [tk_here, tk_app, tk_0, tk_S, gr_here, gr_app, gr_0, gr_S] <;> omega) | fail) only [l18_26, r18_22, r18_23, r18_25, r18_24, rs18, gc18, loadV_ptr, storeV_ptr, List.append_assoc, List.length_append, List.length_cons, List.length_nil, List.set_cons_zero, List.set_cons_succ, tk_here, tk_app, gr_here, gr_app, st_here, st_app, t2, t3, ti, hlt', hx, hy2, hq, fn65, go_sem, ↓reduceIte, Nat.reduceLT, Nat.reduceEqDiff, Nat.reduceAdd, Nat.reduceMul, Nat.reduceSub, Int.reduceAdd, Int.reduceSub, Nat.reduceLeDiff, Int.reduceLT, Int.reduceLE, Int.reduceEq, Int.reduceNeg, Int.reduceToNat]
            repeat' ((first | refine guardB_dec (fun hy => ?_) (fun hy => ?_) | refine guardB_bool (fun hy => ?_) (fun hy => ?_) | refine guardQ_ite (fun hy => ?_) (fun hy => ?_) | refine brQ_dec (fun hy => ?_) (fun hy => ?_) | refine brQ_bool (fun hy => ?_) (fun hy => ?_)) <;> (try simp only [Bool.not_eq_true', Bool.not_eq_false', Bool.and_eq_true, Bool.or_eq_false_iff, decide_eq_true_eq, decide_eq_false_iff_not] at hy) <;> simp (disch := first | rfl | omega | exact lt_new _ | assumption | decide | (simp [tk_here, tk_app, tk_0, tk_S, gr_here, gr_app, gr_0, gr_S] <;> omega) | fail) only [l18_26, r18_22, r18_23, r18_25, r18_24, rs18, gc18, loadV_ptr, storeV_ptr, List.append_assoc, List.length_append, List.length_cons, List.length_nil, List.set_cons_zero, List.set_cons_succ, tk_here, tk_app, gr_here, gr_app, st_here, st_app, t2, t3, ti, hlt', hx, hy2, hq, fn65, go_sem, ↓reduceIte, Nat.reduceLT, Nat.reduceEqDiff, Nat.reduceAdd, Nat.reduceMul, Nat.reduceSub, Int.reduceAdd, Int.reduceSub, Nat.reduceLeDiff, Int.reduceLT, Int.reduceLE, Int.reduceEq, Int.reduceNeg, Int.reduceToNat, hy])
            all_goals (refine finQ_app ?_; simp (disch := first | rfl | omega | exact lt_new _ | assumption | decide | (simp [tk_here, tk_app, tk_0, tk_S, gr_here, gr_app, gr_0, gr_S] <;> omega) | fail) only [go_sem, ↓reduceIte, Nat.reduceLT, Nat.reduceEqDiff, Nat.reduceAdd, Nat.reduceMul, Nat.reduceSub, Int.reduceAdd, Int.reduceSub, Nat.reduceLeDiff, Int.reduceLT, Int.reduceLE, Int.reduceEq, Int.reduceNeg, Int.reduceToNat, hS])
        · obtain rfl : i = c.packets.length := by omega
          have hs3 : sameL pkS c.packets d.packets = true := by rw [hs, List.drop_length, List.drop_eq_nil_of_le (by omega)]; rfl
          clear hs
          have hS : sameB c d = true := by unfold sameB; rw [hs0, hs1, hs2, hs3, decide_eq_true g1]; rfl
          simp (disch := first | rfl | omega | exact lt_new _ | assumption | decide | (simp [tk_here, tk_app, tk_0, tk_S, gr_here, gr_app, gr_0, gr_S] <;> omega) | fail) only [l18_26, r18_22, r18_27, rs18, gc18, loadV_ptr, storeV_ptr, List.append_assoc, List.length_append, List.length_cons, List.length_nil, List.set_cons_zero, List.set_cons_succ, tk_here, tk_app, gr_here, gr_app, st_here, st_app, t2, t3, ti, Int.lt_irrefl, go_sem, ↓reduceIte, Nat.reduceLT, Nat.reduceEqDiff, Nat.reduceAdd, Nat.reduceMul, Nat.reduceSub, Int.reduceAdd, Int.reduceSub, Nat.reduceLeDiff, Int.reduceLT, Int.reduceLE, Int.reduceEq, Int.reduceNeg, Int.reduceToNat]
          refine finQ_app ?_
          simp (disch := first | rfl | omega | exact lt_new _ | assumption | decide | (simp [tk_here, tk_app, tk_0, tk_S, gr_here, gr_app, gr_0, gr_S] <;> omega) | fail) only [go_sem, ↓reduceIte, Nat.reduceLT, Nat.reduceEqDiff, Nat.reduceAdd, Nat.reduceMul, Nat.reduceSub, Int.reduceAdd, Int.reduceSub, Nat.reduceLeDiff, Int.reduceLT, Int.reduceLE, Int.reduceEq, Int.reduceNeg, Int.reduceToNat, hS]
theorem fn24 {b b' : Bool} {l l' : List Int} (hl : l.length ≤ 2 ^ 62) (H : Hp) : callL Try.prog pr 24 [slV b inE l, slV b' inE l'] H = some (.bool (decide (l = l')), H) := by
  have hd : ∀ {l l' : List Int}, sameL (fun x y => decide (x = y)) l l' = decide (l = l') := by
    intro l
    induction l with
    | nil => intro l'; cases l' <;> simp [sameL]
    | cons x l ih => intro l'; cases l' with
      | nil => simp [sameL]
      | cons y l' => simp [sameL, ih, Bool.decide_and]
  rw [← hd]
  refine run24 (Nat.le_of_ble_eq_true rfl) ?_
  by_cases hg : (l.length : Int) = l'.length
  case neg =>
    rw [sameL_len (by omega)]
    simp (disch := first | rfl | omega | exact lt_new _ | assumption | decide | (simp [tk_here, tk_app, tk_0, tk_S, gr_here, gr_app, gr_0, gr_S] <;> omega) | fail) only [r24_0, r24_1, r24_2, r24_3, r24_4, r24_5, r24_6, r24_7, l24_8, r24_9, c24, rs24, gc24, hg, go_sem, ↓reduceIte, Nat.reduceLT, Nat.reduceEqDiff, Nat.reduceAdd, Nat.reduceMul, Nat.reduceSub, Int.reduceAdd, Int.reduceSub, Nat.reduceLeDiff, Int.reduceLT, Int.reduceLE, Int.reduceEq, Int.reduceNeg, Int.reduceToNat]
    repeat' ((first | refine guardB_dec (fun hy => ?_) (fun hy => ?_) | refine guardB_bool (fun hy => ?_) (fun hy => ?_) | refine guardQ_ite (fun hy => ?_) (fun hy => ?_) | refine brQ_dec (fun hy => ?_) (fun hy => ?_) | refine brQ_bool (fun hy => ?_) (fun hy => ?_)) <;> (try simp only [Bool.not_eq_true', Bool.not_eq_false', Bool.and_eq_true, Bool.or_eq_false_iff, decide_eq_true_eq, decide_eq_false_iff_not] at hy) <;> simp (disch := first | rfl | omega | exact lt_new _ | assumption | decide | (simp [tk_here, tk_app, tk_0, tk_S, gr_here, gr_app, gr_0, gr_S] <;> omega) | fail) only [r24_0, r24_1, r24_2, r24_3, r24_4, r24_5, r24_6, r24_7, l24_8, r24_9, c24, rs24, gc24, hg, go_sem, ↓reduceIte, Nat.reduceLT, Nat.reduceEqDiff, Nat.reduceAdd, Nat.reduceMul, Nat.reduceSub, Int.reduceAdd, Int.reduceSub, Nat.reduceLeDiff, Int.reduceLT, Int.reduceLE, Int.reduceEq, Int.reduceNeg, Int.reduceToNat, hy])
    all_goals (try ((first | refine finQ_same ?_ | refine finQ_app ?_ | (rw [List.append_assoc]; refine finQ_app ?_)) <;> simp (disch := first | rfl | omega | exact lt_new _ | assumption | decide | (simp [tk_here, tk_app, tk_0, tk_S, gr_here, gr_app, gr_0, gr_S] <;> omega) | fail) only [go_sem, ↓reduceIte, Nat.reduceLT, Nat.reduceEqDiff, Nat.reduceAdd, Nat.reduceMul, Nat.reduceSub, Int.reduceAdd, Int.reduceSub, Nat.reduceLeDiff, Int.reduceLT, Int.reduceLE, Int.reduceEq, Int.reduceNeg, Int.reduceToNat, List.append_assoc, List.cons_append, List.nil_append, *]))
    all_goals (try first | rfl | (simp [*]; done) | grind)
  simp (disch := first | rfl | omega | exact lt_new _ | assumption | decide | (simp [tk_here, tk_app, tk_0, tk_S, gr_here, gr_app, gr_0, gr_S] <;> omega) | fail) only [r24_0, r24_1, r24_2, r24_3, r24_4, r24_5, r24_6, r24_7, r24_9, c24, rs24, gc24, hg, go_sem, ↓reduceIte, Nat.reduceLT, Nat.reduceEqDiff, Nat.reduceAdd, Nat.reduceMul, Nat.reduceSub, Int.reduceAdd, Int.reduceSub, Nat.reduceLeDiff, Int.reduceLT, Int.reduceLE, Int.reduceEq, Int.reduceNeg, Int.reduceToNat]
  repeat' ((first | refine guardB_dec (fun hy => ?_) (fun hy => ?_) | refine guardB_bool (fun hy => ?_) (fun hy => ?_) | refine guardQ_ite (fun hy => ?_) (fun hy => ?_) | refine brQ_dec (fun hy => ?_) (fun hy => ?_) | refine brQ_bool (fun hy => ?_) (fun hy => ?_)) <;> (try simp only [Bool.not_eq_true', Bool.not_eq_false', Bool.and_eq_true, Bool.or_eq_false_iff, decide_eq_true_eq, decide_eq_false_iff_not] at hy) <;> simp (disch := first | rfl | omega | exact lt_new _ | assumption | decide | (simp [tk_here, tk_app, tk_0, tk_S, gr_here, gr_app, gr_0, gr_S] <;> omega) | fail) only [r24_0, r24_1, r24_2, r24_3, r24_4, r24_5, r24_6, r24_7, r24_9, c24, rs24, gc24, hg, go_sem, ↓reduceIte, Nat.reduceLT, Nat.reduceEqDiff, Nat.reduceAdd, Nat.reduceMul, Nat.reduceSub, Int.reduceAdd, Int.reduceSub, Nat.reduceLeDiff, Int.reduceLT, Int.reduceLE, Int.reduceEq, Int.reduceNeg, Int.reduceToNat, hy])
  refine Wp_loop (fun m T D H' => ∃ i, m = l.length - i ∧ i ≤ l.length ∧ D = [] ∧ H' = H ∧ get T 0 = slV b inE l ∧ get T 1 = slV b' inE l' ∧ get T 5 = .int .i64 i ∧ sameL (fun x y => decide (x = y)) l l' = sameL (fun x y => decide (x = y)) (l.drop i) (l'.drop i)) ?_ l.length _ _ _ ?_
  case refine_2 => exact ⟨0, by simp [go_sem]⟩
  rintro m T D H' ⟨i, rfl, hi, rfl, rfl, t0, t1, t5, hs⟩
  by_cases hlt : i < l.length
  · have hlt' : (i : Int) < l.length := by omega
    have hlt2 : (i : Int) < l'.length := by omega
    have hlt3 : i < l'.length := by omega
    rw [sameL_drop inE hlt hlt3] at hs
    by_cases hq : inE.at l i = inE.at l' i
    · rw [decide_eq_true hq, Bool.true_and] at hs
      simp (disch := first | rfl | omega | exact lt_new _ | assumption | decide | (simp [tk_here, tk_app, tk_0, tk_S, gr_here, gr_app, gr_0, gr_S] <;> omega) | fail) only [r24_0, r24_1, r24_2, r24_3, r24_4, r24_5, r24_6, r24_7, l24_8, r24_9, c24, rs24, gc24, t0, t1, t5, hlt', hq, go_sem, ↓reduceIte, Nat.reduceLT, Nat.reduceEqDiff, Nat.reduceAdd, Nat.reduceMul, Nat.reduceSub, Int.reduceAdd, Int.reduceSub, Nat.reduceLeDiff, Int.reduceLT, Int.reduceLE, Int.reduceEq, Int.reduceNeg, Int.reduceToNat]
      repeat' ((first | refine guardB_dec (fun hy => ?_) (fun hy => ?_) | refine guardB_bool (fun hy => ?_) (fun hy => ?_) | refine guardQ_ite (fun hy => ?_) (fun hy => ?_) | refine brQ_dec (fun hy => ?_) (fun hy => ?_) | refine brQ_bool (fun hy => ?_) (fun hy => ?_)) <;> (try simp only [Bool.not_eq_true', Bool.not_eq_false', Bool.and_eq_true, Bool.or_eq_false_iff, decide_eq_true_eq, decide_eq_false_iff_not] at hy) <;> simp (disch := first | rfl | omega | exact lt_new _ | assumption | decide | (simp [tk_here, tk_app, tk_0, tk_S, gr_here, gr_app, gr_0, gr_S] <;> omega) | fail) only [r24_0, r24_1, r24_2, r24_3, r24_4, r24_5, r24_6, r24_7, l24_8, r24_9, c24, rs24, gc24, t0, t1, t5, hlt', hq, go_sem, ↓reduceIte, Nat.reduceLT, Nat.reduceEqDiff, Nat.reduceAdd, Nat.reduceMul, Nat.reduceSub, Int.reduceAdd, Int.reduceSub, Nat.reduceLeDiff, Int.reduceLT, Int.reduceLE, Int.reduceEq, Int.reduceNeg, Int.reduceToNat, hy])
      exact ⟨_, by omega, i + 1, rfl, hlt, rfl, hs⟩
    · rw [decide_eq_false hq, Bool.false_and] at hs
      simp (disch := first | rfl | omega | exact lt_new _ | assumption | decide | (simp [tk_here, tk_app, tk_0, tk_S, gr_here, gr_app, gr_0, gr_S] <;> omega) | fail) only [r24_0, r24_1, r24_2, r24_3, r24_4, r24_5, r24_6, r24_7, l24_8, r24_9, c24, rs24, gc24, t0, t1, t5, hlt', hq, go_sem, ↓reduceIte, Nat.reduceLT, Nat.reduceEqDiff, Nat.reduceAdd, Nat.reduceMul, Nat.reduceSub, Int.reduceAdd, Int.reduceSub, Nat.reduceLeDiff, Int.reduceLT, Int.reduceLE, Int.reduceEq, Int.reduceNeg, Int.reduceToNat]
      repeat' ((first | refine guardB_dec (fun hy => ?_) (fun hy => ?_) | refine guardB_bool (fun hy => ?_) (fun hy => ?_) | refine guardQ_ite (fun hy => ?_) (fun hy => ?_) | refine brQ_dec (fun hy => ?_) (fun hy => ?_) | refine brQ_bool (fun hy => ?_) (fun hy => ?_)) <;> (try simp only [Bool.not_eq_true', Bool.not_eq_false', Bool.and_eq_true, Bool.or_eq_false_iff, decide_eq_true_eq, decide_eq_false_iff_not] at hy) <;> simp (disch := first | rfl | omega | exact lt_new _ | assumption | decide | (simp [tk_here, tk_app, tk_0, tk_S, gr_here, gr_app, gr_0, gr_S] <;> omega) | fail) only [r24_0, r24_1, r24_2, r24_3, r24_4, r24_5, r24_6, r24_7, l24_8, r24_9, c24, rs24, gc24, t0, t1, t5, hlt', hq, go_sem, ↓reduceIte, Nat.reduceLT, Nat.reduceEqDiff, Nat.reduceAdd, Nat.reduceMul, Nat.reduceSub, Int.reduceAdd, Int.reduceSub, Nat.reduceLeDiff, Int.reduceLT, Int.reduceLE, Int.reduceEq, Int.reduceNeg, Int.reduceToNat, hy])
      all_goals (refine finQ_same ?_; simp (disch := first | rfl | omega | exact lt_new _ | assumption | decide | (simp [tk_here, tk_app, tk_0, tk_S, gr_here, gr_app, gr_0, gr_S] <;> omega) | fail) only [go_sem, ↓reduceIte, Nat.reduceLT, Nat.reduceEqDiff, Nat.reduceAdd, Nat.reduceMul, Nat.reduceSub, Int.reduceAdd, Int.reduceSub, Nat.reduceLeDiff, Int.reduceLT, Int.reduceLE, Int.reduceEq, Int.reduceNeg, Int.reduceToNat, hs])
  · obtain rfl : i = l.length := by omega
    have hs1 : sameL (fun x y => decide (x = y)) l l' = true := by rw [hs, List.drop_length, List.drop_eq_nil_of_le (by omega)]; rfl
    simp (disch := first | rfl | omega | exact lt_new _ | assumption | decide | (simp [tk_here, tk_app, tk_0, tk_S, gr_here, gr_app, gr_0, gr_S] <;> omega) | fail) only [r24_0, r24_1, r24_2, r24_3, r24_4, r24_5, r24_6, r24_7, l24_8, r24_9, c24, rs24, gc24, t0, t1, t5, Int.lt_irrefl, go_sem, ↓reduceIte, Nat.reduceLT, Nat.reduceEqDiff, Nat.reduceAdd, Nat.reduceMul, Nat.reduceSub, Int.reduceAdd, Int.reduceSub, Nat.reduceLeDiff, Int.reduceLT, Int.reduceLE, Int.reduceEq, Int.reduceNeg, Int.reduceToNat]
    repeat' ((first | refine guardB_dec (fun hy => ?_) (fun hy => ?_) | refine guardB_bool (fun hy => ?_) (fun hy => ?_) | refine guardQ_ite (fun hy => ?_) (fun hy => ?_) | refine brQ_dec (fun hy => ?_) (fun hy => ?_) | refine brQ_bool (fun hy => ?_) (fun hy => ?_)) <;> (try simp only [Bool.not_eq_true', Bool.not_eq_false', Bool.and_eq_true, Bool.or_eq_false_iff, decide_eq_true_eq, decide_eq_false_iff_not] at hy) <;> simp (disch := first | rfl | omega | exact lt_new _ | assumption | decide | (simp [tk_here, tk_app, tk_0, tk_S, gr_here, gr_app, gr_0, gr_S] <;> omega) | fail) only [r24_0, r24_1, r24_2, r24_3, r24_4, r24_5, r24_6, r24_7, l24_8, r24_9, c24, rs24, gc24, t0, t1, t5, Int.lt_irrefl, go_sem, ↓reduceIte, Nat.reduceLT, Nat.reduceEqDiff, Nat.reduceAdd, Nat.reduceMul, Nat.reduceSub, Int.reduceAdd, Int.reduceSub, Nat.reduceLeDiff, Int.reduceLT, Int.reduceLE, Int.reduceEq, Int.reduceNeg, Int.reduceToNat, hy])
    refine finQ_same ?_
    simp (disch := first | rfl | omega | exact lt_new _ | assumption | decide | (simp [tk_here, tk_app, tk_0, tk_S, gr_here, gr_app, gr_0, gr_S] <;> omega) | fail) only [go_sem, ↓reduceIte, Nat.reduceLT, Nat.reduceEqDiff, Nat.reduceAdd, Nat.reduceMul, Nat.reduceSub, Int.reduceAdd, Int.reduceSub, Nat.reduceLeDiff, Int.reduceLT, Int.reduceLE, Int.reduceEq, Int.reduceNeg, Int.reduceToNat, hs1]
end Go.Proofs.Ytejkgnmjdaohdaa
/-
  Library functions at this program's types; all captures asked. No statement of the seat stands here.
-/
namespace Go.Proofs.Ytejkgnmjdaohdaa
open Go Go.An
set_option maxRecDepth 4000
set_option linter.unusedSimpArgs false
set_option linter.unusedVariables false

theorem fn71 {b b' : Bool} {l l' : List UInt8} (hl : l.length ≤ 2 ^ 62) (H : Hp) : callL Try.prog pr 71 [slV b byE l, slV b' byE l'] H = some (.bool (decide (l = l')), H) := by
  rw [← sameL_eq]
  refine run71 (Nat.le_of_ble_eq_true rfl) ?_
  by_cases hg : (l.length : Int) = l'.length
  case neg =>
    rw [sameL_len (by omega)]
    simp (disch := first | rfl | omega | exact lt_new _ | assumption | decide | (simp [tk_here, tk_app, tk_0, tk_S, gr_here, gr_app, gr_0, gr_S] <;> omega) | fail) only [r71_0, r71_1, r71_2, r71_3, r71_4, r71_5, r71_6, r71_7, r71_8, l71_9, r71_10, c71, rs71, gc71, go_sem, ↓reduceIte, Nat.reduceLT, Nat.reduceEqDiff, Nat.reduceAdd, Nat.reduceMul, Nat.reduceSub, Int.reduceAdd, Int.reduceSub, Nat.reduceLeDiff, Int.reduceLT, Int.reduceLE, Int.reduceEq, Int.reduceNeg, Int.reduceToNat, hg]
    exact finQ_same (by simp (disch := first | rfl | omega | exact lt_new _ | assumption | decide | (simp [tk_here, tk_app, tk_0, tk_S, gr_here, gr_app, gr_0, gr_S] <;> omega) | fail) only [go_sem, ↓reduceIte, Nat.reduceLT, Nat.reduceEqDiff, Nat.reduceAdd, Nat.reduceMul, Nat.reduceSub, Int.reduceAdd, Int.reduceSub, Nat.reduceLeDiff, Int.reduceLT, Int.reduceLE, Int.reduceEq, Int.reduceNeg, Int.reduceToNat])
  simp (disch := first | rfl | omega | exact lt_new _ | assumption | decide | (simp [tk_here, tk_app, tk_0, tk_S, gr_here, gr_app, gr_0, gr_S] <;> omega) | fail) only [r71_0, r71_1, r71_2, r71_3, r71_4, r71_5, r71_6, r71_7, r71_8, r71_10, c71, rs71, gc71, go_sem, ↓reduceIte, Nat.reduceLT, Nat.reduceEqDiff, Nat.reduceAdd, Nat.reduceMul, Nat.reduceSub, Int.reduceAdd, Int.reduceSub, Nat.reduceLeDiff, Int.reduceLT, Int.reduceLE, Int.reduceEq, Int.reduceNeg, Int.reduceToNat, hg]
  refine Wp_loop (fun m T D H' => ∃ i, m = l.length - i ∧ i ≤ l.length ∧ D = [] ∧ H' = H ∧ get T 0 = slV b byE l ∧ get T 1 = slV b' byE l' ∧ get T 12 = .int .i64 l.length ∧ get T 13 = .int .i64 i ∧ sameL (fun x y => decide (x = y)) l l' = sameL (fun x y => decide (x = y)) (l.drop i) (l'.drop i)) ?_ l.length _ _ _ ?_
  case refine_2 => exact ⟨0, by simp [go_sem, hg]⟩
  rintro m T D H' ⟨i, rfl, hi, rfl, rfl, t0, t1, t12, t13, hs⟩
  by_cases hlt : i < l.length
  · have hlt' : (i : Int) < l.length := by omega
    have hlt3 : i < l'.length := by omega
    have hlt2 : (i : Int) < l'.length := by omega
    rw [sameL_drop byE hlt hlt3] at hs
    by_cases hq : byE.at l i = byE.at l' i
    · rw [decide_eq_true hq, Bool.true_and] at hs
      simp (disch := first | rfl | omega | exact lt_new _ | assumption | decide | (simp [tk_here, tk_app, tk_0, tk_S, gr_here, gr_app, gr_0, gr_S] <;> omega) | fail) only [r71_0, r71_1, r71_2, r71_3, r71_4, r71_5, r71_6, r71_7, r71_8, l71_9, r71_10, c71, rs71, gc71, go_sem, ↓reduceIte, Nat.reduceLT, Nat.reduceEqDiff, Nat.reduceAdd, Nat.reduceMul, Nat.reduceSub, Int.reduceAdd, Int.reduceSub, Nat.reduceLeDiff, Int.reduceLT, Int.reduceLE, Int.reduceEq, Int.reduceNeg, Int.reduceToNat, t0, t1, t12, t13, hlt', hq]
      exact ⟨_, by omega, i + 1, rfl, hlt, rfl, hs⟩
    · rw [decide_eq_false hq, Bool.false_and] at hs
      have hq2 := hq
      rw [← UInt8.toNat_inj, ← Int.natCast_inj] at hq2
      simp (disch := first | rfl | omega | exact lt_new _ | assumption | decide | (simp [tk_here, tk_app, tk_0, tk_S, gr_here, gr_app, gr_0, gr_S] <;> omega) | fail) only [r71_0, r71_1, r71_2, r71_3, r71_4, r71_5, r71_6, r71_7, r71_8, l71_9, r71_10, c71, rs71, gc71, go_sem, ↓reduceIte, Nat.reduceLT, Nat.reduceEqDiff, Nat.reduceAdd, Nat.reduceMul, Nat.reduceSub, Int.reduceAdd, Int.reduceSub, Nat.reduceLeDiff, Int.reduceLT, Int.reduceLE, Int.reduceEq, Int.reduceNeg, Int.reduceToNat, t0, t1, t12, t13, hlt', hq2]
      exact finQ_same (by simp (disch := first | rfl | omega | exact lt_new _ | assumption | decide | (simp [tk_here, tk_app, tk_0, tk_S, gr_here, gr_app, gr_0, gr_S] <;> omega) | fail) only [go_sem, ↓reduceIte, Nat.reduceLT, Nat.reduceEqDiff, Nat.reduceAdd, Nat.reduceMul, Nat.reduceSub, Int.reduceAdd, Int.reduceSub, Nat.reduceLeDiff, Int.reduceLT, Int.reduceLE, Int.reduceEq, Int.reduceNeg, Int.reduceToNat, hs])
  · obtain rfl : i = l.length := by omega
    have hs1 : sameL (fun x y => decide (x = y)) l l' = true := by rw [hs, List.drop_length, List.drop_eq_nil_of_le (by omega)]; rfl
    simp (disch := first | rfl | omega | exact lt_new _ | assumption | decide | (simp [tk_here, tk_app, tk_0, tk_S, gr_here, gr_app, gr_0, gr_S] <;> omega) | fail) only [r71_0, r71_1, r71_2, r71_3, r71_4, r71_5, r71_6, r71_7, r71_8, l71_9, r71_10, c71, rs71, gc71, go_sem, ↓reduceIte, Nat.reduceLT, Nat.reduceEqDiff, Nat.reduceAdd, Nat.reduceMul, Nat.reduceSub, Int.reduceAdd, Int.reduceSub, Nat.reduceLeDiff, Int.reduceLT, Int.reduceLE, Int.reduceEq, Int.reduceNeg, Int.reduceToNat, t0, t1, t12, t13, Int.lt_irrefl]
    exact finQ_same (by simp (disch := first | rfl | omega | exact lt_new _ | assumption | decide | (simp [tk_here, tk_app, tk_0, tk_S, gr_here, gr_app, gr_0, gr_S] <;> omega) | fail) only [go_sem, ↓reduceIte, Nat.reduceLT, Nat.reduceEqDiff, Nat.reduceAdd, Nat.reduceMul, Nat.reduceSub, Int.reduceAdd, Int.reduceSub, Nat.reduceLeDiff, Int.reduceLT, Int.reduceLE, Int.reduceEq, Int.reduceNeg, Int.reduceToNat, hs1])

theorem fn128 {b b' : Bool} {l l' : List Fc} (hl : l.length ≤ 2 ^ 62) (H : Hp) : callL Try.prog pr 128 [slV b fcE l, slV b' fcE l'] H = some (.bool (decide (l = l')), H) := by
  rw [← sameL_eq]
  refine run128 (Nat.le_of_ble_eq_true rfl) ?_
  by_cases hg : (l.length : Int) = l'.length
  case neg =>
    rw [sameL_len (by omega)]
    simp (disch := first | rfl | omega | exact lt_new _ | assumption | decide | (simp [tk_here, tk_app, tk_0, tk_S, gr_here, gr_app, gr_0, gr_S] <;> omega) | fail) only [r128_0, r128_1, r128_2, r128_3, r128_4, r128_5, r128_6, r128_7, r128_8, l128_9, r128_10, c128, rs128, gc128, go_sem, ↓reduceIte, Nat.reduceLT, Nat.reduceEqDiff, Nat.reduceAdd, Nat.reduceMul, Nat.reduceSub, Int.reduceAdd, Int.reduceSub, Nat.reduceLeDiff, Int.reduceLT, Int.reduceLE, Int.reduceEq, Int.reduceNeg, Int.reduceToNat, hg]
    exact finQ_same (by simp (disch := first | rfl | omega | exact lt_new _ | assumption | decide | (simp [tk_here, tk_app, tk_0, tk_S, gr_here, gr_app, gr_0, gr_S] <;> omega) | fail) only [go_sem, ↓reduceIte, Nat.reduceLT, Nat.reduceEqDiff, Nat.reduceAdd, Nat.reduceMul, Nat.reduceSub, Int.reduceAdd, Int.reduceSub, Nat.reduceLeDiff, Int.reduceLT, Int.reduceLE, Int.reduceEq, Int.reduceNeg, Int.reduceToNat])
  simp (disch := first | rfl | omega | exact lt_new _ | assumption | decide | (simp [tk_here, tk_app, tk_0, tk_S, gr_here, gr_app, gr_0, gr_S] <;> omega) | fail) only [r128_0, r128_1, r128_2, r128_3, r128_4, r128_5, r128_6, r128_7, r128_8, r128_10, c128, rs128, gc128, go_sem, ↓reduceIte, Nat.reduceLT, Nat.reduceEqDiff, Nat.reduceAdd, Nat.reduceMul, Nat.reduceSub, Int.reduceAdd, Int.reduceSub, Nat.reduceLeDiff, Int.reduceLT, Int.reduceLE, Int.reduceEq, Int.reduceNeg, Int.reduceToNat, hg]
  refine Wp_loop (fun m T D H' => ∃ i, m = l.length - i ∧ i ≤ l.length ∧ D = [] ∧ H' = H ∧ get T 0 = slV b fcE l ∧ get T 1 = slV b' fcE l' ∧ get T 12 = .int .i64 l.length ∧ get T 13 = .int .i64 i ∧ sameL (fun x y => decide (x = y)) l l' = sameL (fun x y => decide (x = y)) (l.drop i) (l'.drop i)) ?_ l.length _ _ _ ?_
  case refine_2 => exact ⟨0, by simp [go_sem, hg]⟩
  rintro m T D H' ⟨i, rfl, hi, rfl, rfl, t0, t1, t12, t13, hs⟩
  by_cases hlt : i < l.length
  · have hlt' : (i : Int) < l.length := by omega
    have hlt3 : i < l'.length := by omega
    have hlt2 : (i : Int) < l'.length := by omega
    rw [sameL_drop fcE hlt hlt3] at hs
    by_cases hq : fcE.at l i = fcE.at l' i
    · rw [decide_eq_true hq, Bool.true_and] at hs
      simp (disch := first | rfl | omega | exact lt_new _ | assumption | decide | (simp [tk_here, tk_app, tk_0, tk_S, gr_here, gr_app, gr_0, gr_S] <;> omega) | fail) only [r128_0, r128_1, r128_2, r128_3, r128_4, r128_5, r128_6, r128_7, r128_8, l128_9, r128_10, c128, rs128, gc128, go_sem, ↓reduceIte, Nat.reduceLT, Nat.reduceEqDiff, Nat.reduceAdd, Nat.reduceMul, Nat.reduceSub, Int.reduceAdd, Int.reduceSub, Nat.reduceLeDiff, Int.reduceLT, Int.reduceLE, Int.reduceEq, Int.reduceNeg, Int.reduceToNat, t0, t1, t12, t13, hlt', hq, fcS]
      exact ⟨_, by omega, i + 1, rfl, hlt, rfl, hs⟩
    · rw [decide_eq_false hq, Bool.false_and] at hs
      have hq2 := hq
      try simp only [fcS, decide_eq_false_iff_not] at hq2
      simp (disch := first | rfl | omega | exact lt_new _ | assumption | decide | (simp [tk_here, tk_app, tk_0, tk_S, gr_here, gr_app, gr_0, gr_S] <;> omega) | fail) only [r128_0, r128_1, r128_2, r128_3, r128_4, r128_5, r128_6, r128_7, r128_8, l128_9, r128_10, c128, rs128, gc128, go_sem, ↓reduceIte, Nat.reduceLT, Nat.reduceEqDiff, Nat.reduceAdd, Nat.reduceMul, Nat.reduceSub, Int.reduceAdd, Int.reduceSub, Nat.reduceLeDiff, Int.reduceLT, Int.reduceLE, Int.reduceEq, Int.reduceNeg, Int.reduceToNat, t0, t1, t12, t13, hlt', hq2, fcS]
      exact finQ_same (by simp (disch := first | rfl | omega | exact lt_new _ | assumption | decide | (simp [tk_here, tk_app, tk_0, tk_S, gr_here, gr_app, gr_0, gr_S] <;> omega) | fail) only [go_sem, ↓reduceIte, Nat.reduceLT, Nat.reduceEqDiff, Nat.reduceAdd, Nat.reduceMul, Nat.reduceSub, Int.reduceAdd, Int.reduceSub, Nat.reduceLeDiff, Int.reduceLT, Int.reduceLE, Int.reduceEq, Int.reduceNeg, Int.reduceToNat, hs])
  · obtain rfl : i = l.length := by omega
    have hs1 : sameL (fun x y => decide (x = y)) l l' = true := by rw [hs, List.drop_length, List.drop_eq_nil_of_le (by omega)]; rfl
    simp (disch := first | rfl | omega | exact lt_new _ | assumption | decide | (simp [tk_here, tk_app, tk_0, tk_S, gr_here, gr_app, gr_0, gr_S] <;> omega) | fail) only [r128_0, r128_1, r128_2, r128_3, r128_4, r128_5, r128_6, r128_7, r128_8, l128_9, r128_10, c128, rs128, gc128, go_sem, ↓reduceIte, Nat.reduceLT, Nat.reduceEqDiff, Nat.reduceAdd, Nat.reduceMul, Nat.reduceSub, Int.reduceAdd, Int.reduceSub, Nat.reduceLeDiff, Int.reduceLT, Int.reduceLE, Int.reduceEq, Int.reduceNeg, Int.reduceToNat, t0, t1, t12, t13, Int.lt_irrefl]
    exact finQ_same (by simp (disch := first | rfl | omega | exact lt_new _ | assumption | decide | (simp [tk_here, tk_app, tk_0, tk_S, gr_here, gr_app, gr_0, gr_S] <;> omega) | fail) only [go_sem, ↓reduceIte, Nat.reduceLT, Nat.reduceEqDiff, Nat.reduceAdd, Nat.reduceMul, Nat.reduceSub, Int.reduceAdd, Int.reduceSub, Nat.reduceLeDiff, Int.reduceLT, Int.reduceLE, Int.reduceEq, Int.reduceNeg, Int.reduceToNat, hs1])

theorem fn122 {b b' : Bool} {l l' : List Nm} (hl : l.length ≤ 2 ^ 62) (S : Nm → Nm → Bool) (f : Nat) (hk : ∀ v, demK f v = v.dem) (hf : ∀ x y H, callL Try.prog pr f [.agg (nmE.f x), .agg (nmE.f y)] H = some (.bool (S x y), H)) (H : Hp) : callL Try.prog pr 122 [slV b nmE l, slV b' nmE l', .fn f [] []] H = some (.bool (sameL S l l'), H) := by
  refine run122 (Nat.le_of_ble_eq_true rfl) ?_
  by_cases hg : (l.length : Int) = l'.length
  case neg =>
    rw [sameL_len (by omega)]
    simp (disch := first | rfl | omega | exact lt_new _ | assumption | decide | (simp [tk_here, tk_app, tk_0, tk_S, gr_here, gr_app, gr_0, gr_S] <;> omega) | fail) only [r122_0, r122_1, r122_2, r122_3, r122_4, r122_5, r122_6, r122_7, r122_8, r122_9, l122_10, r122_11, c122, rs122, gc122, go_sem, ↓reduceIte, Nat.reduceLT, Nat.reduceEqDiff, Nat.reduceAdd, Nat.reduceMul, Nat.reduceSub, Int.reduceAdd, Int.reduceSub, Nat.reduceLeDiff, Int.reduceLT, Int.reduceLE, Int.reduceEq, Int.reduceNeg, Int.reduceToNat, hg]
    exact finQ_same (by simp (disch := first | rfl | omega | exact lt_new _ | assumption | decide | (simp [tk_here, tk_app, tk_0, tk_S, gr_here, gr_app, gr_0, gr_S] <;> omega) | fail) only [go_sem, ↓reduceIte, Nat.reduceLT, Nat.reduceEqDiff, Nat.reduceAdd, Nat.reduceMul, Nat.reduceSub, Int.reduceAdd, Int.reduceSub, Nat.reduceLeDiff, Int.reduceLT, Int.reduceLE, Int.reduceEq, Int.reduceNeg, Int.reduceToNat])
  simp (disch := first | rfl | omega | exact lt_new _ | assumption | decide | (simp [tk_here, tk_app, tk_0, tk_S, gr_here, gr_app, gr_0, gr_S] <;> omega) | fail) only [r122_0, r122_1, r122_2, r122_3, r122_4, r122_5, r122_6, r122_7, r122_8, r122_9, r122_11, c122, rs122, gc122, go_sem, ↓reduceIte, Nat.reduceLT, Nat.reduceEqDiff, Nat.reduceAdd, Nat.reduceMul, Nat.reduceSub, Int.reduceAdd, Int.reduceSub, Nat.reduceLeDiff, Int.reduceLT, Int.reduceLE, Int.reduceEq, Int.reduceNeg, Int.reduceToNat, hg]
  refine Wp_loop (fun m T D H' => ∃ i G, m = l.length - i ∧ i ≤ l.length ∧ D = [] ∧ H' = H ++ G ∧ get T 1 = slV b' nmE l' ∧ get T 2 = .fn f [] [] ∧ get T 15 = slV b nmE l ∧ get T 16 = .int .i64 l.length ∧ get T 17 = .int .i64 i ∧ sameL S l l' = sameL S (l.drop i) (l'.drop i)) ?_ l.length _ _ _ ?_
  case refine_2 => exact ⟨0, [], by simp [go_sem, hg]⟩
  rintro m T D H' ⟨i, G, rfl, hi, rfl, rfl, t1, t2, t15, t16, t17, hs⟩
  by_cases hlt : i < l.length
  · have hlt' : (i : Int) < l.length := by omega
    have hlt3 : i < l'.length := by omega
    have hlt2 : (i : Int) < l'.length := by omega
    rw [sameL_drop nmE hlt hlt3] at hs
    by_cases hq : S (nmE.at l i) (nmE.at l' i) = true
    · rw [hq, Bool.true_and] at hs
      simp (disch := first | rfl | omega | exact lt_new _ | assumption | decide | (simp [tk_here, tk_app, tk_0, tk_S, gr_here, gr_app, gr_0, gr_S] <;> omega) | fail) only [r122_0, r122_1, r122_2, r122_3, r122_4, r122_5, r122_6, r122_7, r122_8, r122_9, l122_10, r122_11, c122, rs122, gc122, go_sem, ↓reduceIte, Nat.reduceLT, Nat.reduceEqDiff, Nat.reduceAdd, Nat.reduceMul, Nat.reduceSub, Int.reduceAdd, Int.reduceSub, Nat.reduceLeDiff, Int.reduceLT, Int.reduceLE, Int.reduceEq, Int.reduceNeg, Int.reduceToNat, loadV_ptr, storeV_ptr, List.append_assoc, List.length_append, List.length_cons, List.length_nil, List.set_cons_zero, List.set_cons_succ, tk_here, tk_app, gr_here, gr_app, st_here, st_app, t1, t2, t15, t16, t17, hlt', hq, hk, hf]
      exact ⟨_, by omega, i + 1, _, rfl, hlt, rfl, rfl, hs⟩
    · rw [Bool.not_eq_true] at hq
      rw [hq, Bool.false_and] at hs
      simp (disch := first | rfl | omega | exact lt_new _ | assumption | decide | (simp [tk_here, tk_app, tk_0, tk_S, gr_here, gr_app, gr_0, gr_S] <;> omega) | fail) only [r122_0, r122_1, r122_2, r122_3, r122_4, r122_5, r122_6, r122_7, r122_8, r122_9, l122_10, r122_11, c122, rs122, gc122, go_sem, ↓reduceIte, Nat.reduceLT, Nat.reduceEqDiff, Nat.reduceAdd, Nat.reduceMul, Nat.reduceSub, Int.reduceAdd, Int.reduceSub, Nat.reduceLeDiff, Int.reduceLT, Int.reduceLE, Int.reduceEq, Int.reduceNeg, Int.reduceToNat, loadV_ptr, storeV_ptr, List.append_assoc, List.length_append, List.length_cons, List.length_nil, List.set_cons_zero, List.set_cons_succ, tk_here, tk_app, gr_here, gr_app, st_here, st_app, t1, t2, t15, t16, t17, hlt', hq, hk, hf]
      exact finQ_app (by simp (disch := first | rfl | omega | exact lt_new _ | assumption | decide | (simp [tk_here, tk_app, tk_0, tk_S, gr_here, gr_app, gr_0, gr_S] <;> omega) | fail) only [go_sem, ↓reduceIte, Nat.reduceLT, Nat.reduceEqDiff, Nat.reduceAdd, Nat.reduceMul, Nat.reduceSub, Int.reduceAdd, Int.reduceSub, Nat.reduceLeDiff, Int.reduceLT, Int.reduceLE, Int.reduceEq, Int.reduceNeg, Int.reduceToNat, hs])
  · obtain rfl : i = l.length := by omega
    have hs1 : sameL S l l' = true := by rw [hs, List.drop_length, List.drop_eq_nil_of_le (by omega)]; rfl
    simp (disch := first | rfl | omega | exact lt_new _ | assumption | decide | (simp [tk_here, tk_app, tk_0, tk_S, gr_here, gr_app, gr_0, gr_S] <;> omega) | fail) only [r122_0, r122_1, r122_2, r122_3, r122_4, r122_5, r122_6, r122_7, r122_8, r122_9, l122_10, r122_11, c122, rs122, gc122, go_sem, ↓reduceIte, Nat.reduceLT, Nat.reduceEqDiff, Nat.reduceAdd, Nat.reduceMul, Nat.reduceSub, Int.reduceAdd, Int.reduceSub, Nat.reduceLeDiff, Int.reduceLT, Int.reduceLE, Int.reduceEq, Int.reduceNeg, Int.reduceToNat, t1, t2, t15, t16, t17, Int.lt_irrefl]
    exact finQ_app (by simp (disch := first | rfl | omega | exact lt_new _ | assumption | decide | (simp [tk_here, tk_app, tk_0, tk_S, gr_here, gr_app, gr_0, gr_S] <;> omega) | fail) only [go_sem, ↓reduceIte, Nat.reduceLT, Nat.reduceEqDiff, Nat.reduceAdd, Nat.reduceMul, Nat.reduceSub, Int.reduceAdd, Int.reduceSub, Nat.reduceLeDiff, Int.reduceLT, Int.reduceLE, Int.reduceEq, Int.reduceNeg, Int.reduceToNat, hs1])

theorem fn124 {b b' : Bool} {l l' : List Sc} (hl : l.length ≤ 2 ^ 62) (S : Sc → Sc → Bool) (f : Nat) (hk : ∀ v, demK f v = v.dem) (hf : ∀ x y H, callL Try.prog pr f [.agg (scE.f x), .agg (scE.f y)] H = some (.bool (S x y), H)) (H : Hp) : callL Try.prog pr 124 [slV b scE l, slV b' scE l', .fn f [] []] H = some (.bool (sameL S l l'), H) := by
  refine run124 (Nat.le_of_ble_eq_true rfl) ?_
  by_cases hg : (l.length : Int) = l'.length
  case neg =>
    rw [sameL_len (by omega)]
    simp (disch := first | rfl | omega | exact lt_new _ | assumption | decide | (simp [tk_here, tk_app, tk_0, tk_S, gr_here, gr_app, gr_0, gr_S] <;> omega) | fail) only [r124_0, r124_1, r124_2, r124_3, r124_4, r124_5, r124_6, r124_7, r124_8, r124_9, l124_10, r124_11, c124, rs124, gc124, go_sem, ↓reduceIte, Nat.reduceLT, Nat.reduceEqDiff, Nat.reduceAdd, Nat.reduceMul, Nat.reduceSub, Int.reduceAdd, Int.reduceSub, Nat.reduceLeDiff, Int.reduceLT, Int.reduceLE, Int.reduceEq, Int.reduceNeg, Int.reduceToNat, hg]
    exact finQ_same (by simp (disch := first | rfl | omega | exact lt_new _ | assumption | decide | (simp [tk_here, tk_app, tk_0, tk_S, gr_here, gr_app, gr_0, gr_S] <;> omega) | fail) only [go_sem, ↓reduceIte, Nat.reduceLT, Nat.reduceEqDiff, Nat.reduceAdd, Nat.reduceMul, Nat.reduceSub, Int.reduceAdd, Int.reduceSub, Nat.reduceLeDiff, Int.reduceLT, Int.reduceLE, Int.reduceEq, Int.reduceNeg, Int.reduceToNat])
  simp (disch := first | rfl | omega | exact lt_new _ | assumption | decide | (simp [tk_here, tk_app, tk_0, tk_S, gr_here, gr_app, gr_0, gr_S] <;> omega) | fail) only [r124_0, r124_1, r124_2, r124_3, r124_4, r124_5, r124_6, r124_7, r124_8, r124_9, r124_11, c124, rs124, gc124, go_sem, ↓reduceIte, Nat.reduceLT, Nat.reduceEqDiff, Nat.reduceAdd, Nat.reduceMul, Nat.reduceSub, Int.reduceAdd, Int.reduceSub, Nat.reduceLeDiff, Int.reduceLT, Int.reduceLE, Int.reduceEq, Int.reduceNeg, Int.reduceToNat, hg]
  refine Wp_loop (fun m T D H' => ∃ i G, m = l.length - i ∧ i ≤ l.length ∧ D = [] ∧ H' = H ++ G ∧ get T 1 = slV b' scE l' ∧ get T 2 = .fn f [] [] ∧ get T 15 = slV b scE l ∧ get T 16 = .int .i64 l.length ∧ get T 17 = .int .i64 i ∧ sameL S l l' = sameL S (l.drop i) (l'.drop i)) ?_ l.length _ _ _ ?_
  case refine_2 => exact ⟨0, [], by simp [go_sem, hg]⟩
  rintro m T D H' ⟨i, G, rfl, hi, rfl, rfl, t1, t2, t15, t16, t17, hs⟩
  by_cases hlt : i < l.length
  · have hlt' : (i : Int) < l.length := by omega
    have hlt3 : i < l'.length := by omega
    have hlt2 : (i : Int) < l'.length := by omega
    rw [sameL_drop scE hlt hlt3] at hs
    by_cases hq : S (scE.at l i) (scE.at l' i) = true
    · rw [hq, Bool.true_and] at hs
      simp (disch := first | rfl | omega | exact lt_new _ | assumption | decide | (simp [tk_here, tk_app, tk_0, tk_S, gr_here, gr_app, gr_0, gr_S] <;> omega) | fail) only [r124_0, r124_1, r124_2, r124_3, r124_4, r124_5, r124_6, r124_7, r124_8, r124_9, l124_10, r124_11, c124, rs124, gc124, go_sem, ↓reduceIte, Nat.reduceLT, Nat.reduceEqDiff, Nat.reduceAdd, Nat.reduceMul, Nat.reduceSub, Int.reduceAdd, Int.reduceSub, Nat.reduceLeDiff, Int.reduceLT, Int.reduceLE, Int.reduceEq, Int.reduceNeg, Int.reduceToNat, loadV_ptr, storeV_ptr, List.append_assoc, List.length_append, List.length_cons, List.length_nil, List.set_cons_zero, List.set_cons_succ, tk_here, tk_app, gr_here, gr_app, st_here, st_app, t1, t2, t15, t16, t17, hlt', hq, hk, hf]
      exact ⟨_, by omega, i + 1, _, rfl, hlt, rfl, rfl, hs⟩
    · rw [Bool.not_eq_true] at hq
      rw [hq, Bool.false_and] at hs
      simp (disch := first | rfl | omega | exact lt_new _ | assumption | decide | (simp [tk_here, tk_app, tk_0, tk_S, gr_here, gr_app, gr_0, gr_S] <;> omega) | fail) only [r124_0, r124_1, r124_2, r124_3, r124_4, r124_5, r124_6, r124_7, r124_8, r124_9, l124_10, r124_11, c124, rs124, gc124, go_sem, ↓reduceIte, Nat.reduceLT, Nat.reduceEqDiff, Nat.reduceAdd, Nat.reduceMul, Nat.reduceSub, Int.reduceAdd, Int.reduceSub, Nat.reduceLeDiff, Int.reduceLT, Int.reduceLE, Int.reduceEq, Int.reduceNeg, Int.reduceToNat, loadV_ptr, storeV_ptr, List.append_assoc, List.length_append, List.length_cons, List.length_nil, List.set_cons_zero, List.set_cons_succ, tk_here, tk_app, gr_here, gr_app, st_here, st_app, t1, t2, t15, t16, t17, hlt', hq, hk, hf]
      exact finQ_app (by simp (disch := first | rfl | omega | exact lt_new _ | assumption | decide | (simp [tk_here, tk_app, tk_0, tk_S, gr_here, gr_app, gr_0, gr_S] <;> omega) | fail) only [go_sem, ↓reduceIte, Nat.reduceLT, Nat.reduceEqDiff, Nat.reduceAdd, Nat.reduceMul, Nat.reduceSub, Int.reduceAdd, Int.reduceSub, Nat.reduceLeDiff, Int.reduceLT, Int.reduceLE, Int.reduceEq, Int.reduceNeg, Int.reduceToNat, hs])
  · obtain rfl : i = l.length := by omega
    have hs1 : sameL S l l' = true := by rw [hs, List.drop_length, List.drop_eq_nil_of_le (by omega)]; rfl
    simp (disch := first | rfl | omega | exact lt_new _ | assumption | decide | (simp [tk_here, tk_app, tk_0, tk_S, gr_here, gr_app, gr_0, gr_S] <;> omega) | fail) only [r124_0, r124_1, r124_2, r124_3, r124_4, r124_5, r124_6, r124_7, r124_8, r124_9, l124_10, r124_11, c124, rs124, gc124, go_sem, ↓reduceIte, Nat.reduceLT, Nat.reduceEqDiff, Nat.reduceAdd, Nat.reduceMul, Nat.reduceSub, Int.reduceAdd, Int.reduceSub, Nat.reduceLeDiff, Int.reduceLT, Int.reduceLE, Int.reduceEq, Int.reduceNeg, Int.reduceToNat, t1, t2, t15, t16, t17, Int.lt_irrefl]
    exact finQ_app (by simp (disch := first | rfl | omega | exact lt_new _ | assumption | decide | (simp [tk_here, tk_app, tk_0, tk_S, gr_here, gr_app, gr_0, gr_S] <;> omega) | fail) only [go_sem, ↓reduceIte, Nat.reduceLT, Nat.reduceEqDiff, Nat.reduceAdd, Nat.reduceMul, Nat.reduceSub, Int.reduceAdd, Int.reduceSub, Nat.reduceLeDiff, Int.reduceLT, Int.reduceLE, Int.reduceEq, Int.reduceNeg, Int.reduceToNat, hs1])

theorem fn126 {b b' : Bool} {l l' : List Pk} (hl : l.length ≤ 2 ^ 62) (S : Pk → Pk → Bool) (f : Nat) (hk : ∀ v, demK f v = v.dem) (hf : ∀ x y H, callL Try.prog pr f [.agg (pkE.f x), .agg (pkE.f y)] H = some (.bool (S x y), H)) (H : Hp) : callL Try.prog pr 126 [slV b pkE l, slV b' pkE l', .fn f [] []] H = some (.bool (sameL S l l'), H) := by
  refine run126 (Nat.le_of_ble_eq_true rfl) ?_
  by_cases hg : (l.length : Int) = l'.length
  case neg =>
    rw [sameL_len (by omega)]
    simp (disch := first | rfl | omega | exact lt_new _ | assumption | decide | (simp [tk_here, tk_app, tk_0, tk_S, gr_here, gr_app, gr_0, gr_S] <;> omega) | fail) only [r126_0, r126_1, r126_2, r126_3, r126_4, r126_5, r126_6, r126_7, r126_8, r126_9, l126_10, r126_11, c126, rs126, gc126, go_sem, ↓reduceIte, Nat.reduceLT, Nat.reduceEqDiff, Nat.reduceAdd, Nat.reduceMul, Nat.reduceSub, Int.reduceAdd, Int.reduceSub, Nat.reduceLeDiff, Int.reduceLT, Int.reduceLE, Int.reduceEq, Int.reduceNeg, Int.reduceToNat, hg]
    exact finQ_same (by simp (disch := first | rfl | omega | exact lt_new _ | assumption | decide | (simp [tk_here, tk_app, tk_0, tk_S, gr_here, gr_app, gr_0, gr_S] <;> omega) | fail) only [go_sem, ↓reduceIte, Nat.reduceLT, Nat.reduceEqDiff, Nat.reduceAdd, Nat.reduceMul, Nat.reduceSub, Int.reduceAdd, Int.reduceSub, Nat.reduceLeDiff, Int.reduceLT, Int.reduceLE, Int.reduceEq, Int.reduceNeg, Int.reduceToNat])
  simp (disch := first | rfl | omega | exact lt_new _ | assumption | decide | (simp [tk_here, tk_app, tk_0, tk_S, gr_here, gr_app, gr_0, gr_S] <;> omega) | fail) only [r126_0, r126_1, r126_2, r126_3, r126_4, r126_5, r126_6, r126_7, r126_8, r126_9, r126_11, c126, rs126, gc126, go_sem, ↓reduceIte, Nat.reduceLT, Nat.reduceEqDiff, Nat.reduceAdd, Nat.reduceMul, Nat.reduceSub, Int.reduceAdd, Int.reduceSub, Nat.reduceLeDiff, Int.reduceLT, Int.reduceLE, Int.reduceEq, Int.reduceNeg, Int.reduceToNat, hg]
  refine Wp_loop (fun m T D H' => ∃ i G, m = l.length - i ∧ i ≤ l.length ∧ D = [] ∧ H' = H ++ G ∧ get T 1 = slV b' pkE l' ∧ get T 2 = .fn f [] [] ∧ get T 15 = slV b pkE l ∧ get T 16 = .int .i64 l.length ∧ get T 17 = .int .i64 i ∧ sameL S l l' = sameL S (l.drop i) (l'.drop i)) ?_ l.length _ _ _ ?_
  case refine_2 => exact ⟨0, [], by simp [go_sem, hg]⟩
  rintro m T D H' ⟨i, G, rfl, hi, rfl, rfl, t1, t2, t15, t16, t17, hs⟩
  by_cases hlt : i < l.length
  · have hlt' : (i : Int) < l.length := by omega
    have hlt3 : i < l'.length := by omega
    have hlt2 : (i : Int) < l'.length := by omega
    rw [sameL_drop pkE hlt hlt3] at hs
    by_cases hq : S (pkE.at l i) (pkE.at l' i) = true
    · rw [hq, Bool.true_and] at hs
      simp (disch := first | rfl | omega | exact lt_new _ | assumption | decide | (simp [tk_here, tk_app, tk_0, tk_S, gr_here, gr_app, gr_0, gr_S] <;> omega) | fail) only [r126_0, r126_1, r126_2, r126_3, r126_4, r126_5, r126_6, r126_7, r126_8, r126_9, l126_10, r126_11, c126, rs126, gc126, go_sem, ↓reduceIte, Nat.reduceLT, Nat.reduceEqDiff, Nat.reduceAdd, Nat.reduceMul, Nat.reduceSub, Int.reduceAdd, Int.reduceSub, Nat.reduceLeDiff, Int.reduceLT, Int.reduceLE, Int.reduceEq, Int.reduceNeg, Int.reduceToNat, loadV_ptr, storeV_ptr, List.append_assoc, List.length_append, List.length_cons, List.length_nil, List.set_cons_zero, List.set_cons_succ, tk_here, tk_app, gr_here, gr_app, st_here, st_app, t1, t2, t15, t16, t17, hlt', hq, hk, hf]
      exact ⟨_, by omega, i + 1, _, rfl, hlt, rfl, rfl, hs⟩
    · rw [Bool.not_eq_true] at hq
      rw [hq, Bool.false_and] at hs
      simp (disch := first | rfl | omega | exact lt_new _ | assumption | decide | (simp [tk_here, tk_app, tk_0, tk_S, gr_here, gr_app, gr_0, gr_S] <;> omega) | fail) only [r126_0, r126_1, r126_2, r126_3, r126_4, r126_5, r126_6, r126_7, r126_8, r126_9, l126_10, r126_11, c126, rs126, gc126, go_sem, ↓reduceIte, Nat.reduceLT, Nat.reduceEqDiff, Nat.reduceAdd, Nat.reduceMul, Nat.reduceSub, Int.reduceAdd, Int.reduceSub, Nat.reduceLeDiff, Int.reduceLT, Int.reduceLE, Int.reduceEq, Int.reduceNeg, Int.reduceToNat, loadV_ptr, storeV_ptr, List.append_assoc, List.length_append, List.length_cons, List.length_nil, List.set_cons_zero, List.set_cons_succ, tk_here, tk_app, gr_here, gr_app, st_here, st_app, t1, t2, t15, t16, t17, hlt', hq, hk, hf]
      exact finQ_app (by simp (disch := first | rfl | omega | exact lt_new _ | assumption | decide | (simp [tk_here, tk_app, tk_0, tk_S, gr_here, gr_app, gr_0, gr_S] <;> omega) | fail) only [go_sem, ↓reduceIte, Nat.reduceLT, Nat.reduceEqDiff, Nat.reduceAdd, Nat.reduceMul, Nat.reduceSub, Int.reduceAdd, Int.reduceSub, Nat.reduceLeDiff, Int.reduceLT, Int.reduceLE, Int.reduceEq, Int.reduceNeg, Int.reduceToNat, hs])
  · obtain rfl : i = l.length := by omega
    have hs1 : sameL S l l' = true := by rw [hs, List.drop_length, List.drop_eq_nil_of_le (by omega)]; rfl
    simp (disch := first | rfl | omega | exact lt_new _ | assumption | decide | (simp [tk_here, tk_app, tk_0, tk_S, gr_here, gr_app, gr_0, gr_S] <;> omega) | fail) only [r126_0, r126_1, r126_2, r126_3, r126_4, r126_5, r126_6, r126_7, r126_8, r126_9, l126_10, r126_11, c126, rs126, gc126, go_sem, ↓reduceIte, Nat.reduceLT, Nat.reduceEqDiff, Nat.reduceAdd, Nat.reduceMul, Nat.reduceSub, Int.reduceAdd, Int.reduceSub, Nat.reduceLeDiff, Int.reduceLT, Int.reduceLE, Int.reduceEq, Int.reduceNeg, Int.reduceToNat, t1, t2, t15, t16, t17, Int.lt_irrefl]
    exact finQ_app (by simp (disch := first | rfl | omega | exact lt_new _ | assumption | decide | (simp [tk_here, tk_app, tk_0, tk_S, gr_here, gr_app, gr_0, gr_S] <;> omega) | fail) only [go_sem, ↓reduceIte, Nat.reduceLT, Nat.reduceEqDiff, Nat.reduceAdd, Nat.reduceMul, Nat.reduceSub, Int.reduceAdd, Int.reduceSub, Nat.reduceLeDiff, Int.reduceLT, Int.reduceLE, Int.reduceEq, Int.reduceNeg, Int.reduceToNat, hs1])

theorem fn114L {α : Type} {E : Enc α} {b : Bool} {l : List α} {H : Hp} (hw : E.w = 5) (hlen : l.length < 2 ^ 62) (p : α → Bool) (f : Nat) (ca cb : List V) (hk : ∀ v, demK f v = v.dem) (hf : ∀ x ∈ l, callL Try.prog pr f (ca ++ [.agg (E.f x)] ++ cb) H = some (.bool (p x), H)) : callL Try.prog pr 114 [slV b E l, .fn f ca cb] H = some (.int .i64 (findI p l 0), H) := by
  refine run114 (Nat.le_of_ble_eq_true rfl) ?_
  simp (disch := first | rfl | omega | exact lt_new _ | assumption | decide | (simp [tk_here, tk_app, tk_0, tk_S, gr_here, gr_app, gr_0, gr_S] <;> omega) | fail) only [r114_0, r114_1, r114_2, r114_3, r114_4, r114_5, r114_6, r114_8, c114, rs114, gc114, go_sem, ↓reduceIte, Nat.reduceLT, Nat.reduceEqDiff, Nat.reduceAdd, Nat.reduceMul, Nat.reduceSub, Int.reduceAdd, Int.reduceSub, Nat.reduceLeDiff, Int.reduceLT, Int.reduceLE, Int.reduceEq, Int.reduceNeg, Int.reduceToNat]
  refine Wp_loop (fun m T D H' => ∃ i, m = l.length - i ∧ i ≤ l.length ∧ D = [] ∧ H' = H ∧ get T 0 = slV b E l ∧ get T 1 = .fn f ca cb ∧ get T 7 = .int .i64 l.length ∧ get T 8 = .int .i64 i ∧ findI p l 0 = findI p (l.drop i) i) ?_ l.length _ _ _ ?_
  · rintro m T D H' ⟨i, rfl, hi, rfl, rfl, h0, h1, h7, h8, hp⟩
    by_cases hlt : i < l.length
    · have hlt' : (i : Int) < l.length := by omega
      have hpi := findI_drop p (E.at_some hlt) i
      have hfi := hf _ (E.at_mem hlt)
      have hld := fun H => @ld_agg _ Try.prog H α E l 56 5 i g56 z56 hw hlt
      simp (disch := first | rfl | omega | exact lt_new _ | assumption | decide | (simp [tk_here, tk_app, tk_0, tk_S, gr_here, gr_app, gr_0, gr_S] <;> omega) | fail) only [r114_0, r114_1, r114_2, r114_3, r114_4, r114_5, r114_6, l114_7, r114_8, c114, rs114, gc114, go_sem, ↓reduceIte, Nat.reduceLT, Nat.reduceEqDiff, Nat.reduceAdd, Nat.reduceMul, Nat.reduceSub, Int.reduceAdd, Int.reduceSub, Nat.reduceLeDiff, Int.reduceLT, Int.reduceLE, Int.reduceEq, Int.reduceNeg, Int.reduceToNat, h0, h1, h7, h8, hld, hk, hfi, hlt', decide_true]
      refine brQ_bool (fun hy => ?_) (fun hy => ?_)
      · rw [if_pos hy] at hpi
        simp (disch := first | rfl | omega | exact lt_new _ | assumption | decide | (simp [tk_here, tk_app, tk_0, tk_S, gr_here, gr_app, gr_0, gr_S] <;> omega) | fail) only [r114_0, r114_1, r114_2, r114_3, r114_4, r114_5, r114_6, l114_7, r114_8, c114, rs114, gc114, go_sem, ↓reduceIte, Nat.reduceLT, Nat.reduceEqDiff, Nat.reduceAdd, Nat.reduceMul, Nat.reduceSub, Int.reduceAdd, Int.reduceSub, Nat.reduceLeDiff, Int.reduceLT, Int.reduceLE, Int.reduceEq, Int.reduceNeg, Int.reduceToNat, h0, h1, h7, h8]
        refine finQ_same ?_
        simp (disch := first | rfl | omega | exact lt_new _ | assumption | decide | (simp [tk_here, tk_app, tk_0, tk_S, gr_here, gr_app, gr_0, gr_S] <;> omega) | fail) only [go_sem, ↓reduceIte, Nat.reduceLT, Nat.reduceEqDiff, Nat.reduceAdd, Nat.reduceMul, Nat.reduceSub, Int.reduceAdd, Int.reduceSub, Nat.reduceLeDiff, Int.reduceLT, Int.reduceLE, Int.reduceEq, Int.reduceNeg, Int.reduceToNat, hp, hpi]
      · rw [if_neg (by simp [hy])] at hpi
        simp (disch := first | rfl | omega | exact lt_new _ | assumption | decide | (simp [tk_here, tk_app, tk_0, tk_S, gr_here, gr_app, gr_0, gr_S] <;> omega) | fail) only [r114_0, r114_1, r114_2, r114_3, r114_4, r114_5, r114_6, l114_7, r114_8, c114, rs114, gc114, go_sem, ↓reduceIte, Nat.reduceLT, Nat.reduceEqDiff, Nat.reduceAdd, Nat.reduceMul, Nat.reduceSub, Int.reduceAdd, Int.reduceSub, Nat.reduceLeDiff, Int.reduceLT, Int.reduceLE, Int.reduceEq, Int.reduceNeg, Int.reduceToNat, h0, h1, h7, h8]
        exact ⟨_, by omega, i + 1, rfl, hlt, rfl, by rw [hp, hpi]; rfl⟩
    · obtain rfl : i = l.length := by omega
      simp (disch := first | rfl | omega | exact lt_new _ | assumption | decide | (simp [tk_here, tk_app, tk_0, tk_S, gr_here, gr_app, gr_0, gr_S] <;> omega) | fail) only [r114_0, r114_1, r114_2, r114_3, r114_4, r114_5, r114_6, l114_7, r114_8, c114, rs114, gc114, go_sem, ↓reduceIte, Nat.reduceLT, Nat.reduceEqDiff, Nat.reduceAdd, Nat.reduceMul, Nat.reduceSub, Int.reduceAdd, Int.reduceSub, Nat.reduceLeDiff, Int.reduceLT, Int.reduceLE, Int.reduceEq, Int.reduceNeg, Int.reduceToNat, h0, h1, h7, h8, Int.lt_irrefl, decide_false]
      refine finQ_same ?_
      rw [hp, List.drop_length]
      simp (disch := first | rfl | omega | exact lt_new _ | assumption | decide | (simp [tk_here, tk_app, tk_0, tk_S, gr_here, gr_app, gr_0, gr_S] <;> omega) | fail) only [go_sem, ↓reduceIte, Nat.reduceLT, Nat.reduceEqDiff, Nat.reduceAdd, Nat.reduceMul, Nat.reduceSub, Int.reduceAdd, Int.reduceSub, Nat.reduceLeDiff, Int.reduceLT, Int.reduceLE, Int.reduceEq, Int.reduceNeg, Int.reduceToNat, findI]
  · exact ⟨0, by simp [go_sem]⟩

theorem fn69L {α : Type} {E : Enc α} {b : Bool} {l : List α} {H : Hp} (hw : E.w = 5) (hlen : l.length < 2 ^ 62) (p : α → Bool) (f : Nat) (ca cb : List V) (hk : ∀ v, demK f v = v.dem) (hf : ∀ x ∈ l, callL Try.prog pr f (ca ++ [.agg (E.f x)] ++ cb) H = some (.bool (p x), H)) : callL Try.prog pr 69 [slV b E l, .fn f ca cb] H = some (.bool (l.any p), H) := by
  refine run69 (Nat.le_of_ble_eq_true rfl) ?_
  simp (disch := first | rfl | omega | exact lt_new _ | assumption | decide | (simp [tk_here, tk_app, tk_0, tk_S, gr_here, gr_app, gr_0, gr_S] <;> omega) | fail) only [r69_0, r69_1, c69, rs69, gc69, go_sem, ↓reduceIte, Nat.reduceLT, Nat.reduceEqDiff, Nat.reduceAdd, Nat.reduceMul, Nat.reduceSub, Int.reduceAdd, Int.reduceSub, Nat.reduceLeDiff, Int.reduceLT, Int.reduceLE, Int.reduceEq, Int.reduceNeg, Int.reduceToNat, fn114L hw hlen p f ca cb hk hf]
  refine finQ_same ?_
  simp (disch := first | rfl | omega | exact lt_new _ | assumption | decide | (simp [tk_here, tk_app, tk_0, tk_S, gr_here, gr_app, gr_0, gr_S] <;> omega) | fail) only [go_sem, ↓reduceIte, Nat.reduceLT, Nat.reduceEqDiff, Nat.reduceAdd, Nat.reduceMul, Nat.reduceSub, Int.reduceAdd, Int.reduceSub, Nat.reduceLeDiff, Int.reduceLT, Int.reduceLE, Int.reduceEq, Int.reduceNeg, Int.reduceToNat, findI_any p l 0 (by omega)]

def okT (n : Int) : Bool := decide (0 ≤ n) && decide (n ≤ 1000000000000000)
theorem fn68 (n : Int) (H : Hp) : callL Try.prog pr 68 [.int .i64 n] H = some (.bool (okT n), H) := by
  refine run68 (Nat.le_of_ble_eq_true rfl) ?_
  unfold okT
  simp (disch := first | rfl | omega | exact lt_new _ | assumption | decide | (simp [tk_here, tk_app, tk_0, tk_S, gr_here, gr_app, gr_0, gr_S] <;> omega) | fail) only [r68_0, r68_1, c68, rs68, gc68, go_sem, ↓reduceIte, Nat.reduceLT, Nat.reduceEqDiff, Nat.reduceAdd, Nat.reduceMul, Nat.reduceSub, Int.reduceAdd, Int.reduceSub, Nat.reduceLeDiff, Int.reduceLT, Int.reduceLE, Int.reduceEq, Int.reduceNeg, Int.reduceToNat]
  repeat' ((first | refine guardB_dec (fun hy => ?_) (fun hy => ?_) | refine guardB_bool (fun hy => ?_) (fun hy => ?_) | refine guardQ_ite (fun hy => ?_) (fun hy => ?_) | refine brQ_dec (fun hy => ?_) (fun hy => ?_) | refine brQ_bool (fun hy => ?_) (fun hy => ?_)) <;> (try simp only [Bool.not_eq_true', Bool.not_eq_false', Bool.and_eq_true, Bool.or_eq_false_iff, decide_eq_true_eq, decide_eq_false_iff_not] at hy) <;> simp (disch := first | rfl | omega | exact lt_new _ | assumption | decide | (simp [tk_here, tk_app, tk_0, tk_S, gr_here, gr_app, gr_0, gr_S] <;> omega) | fail) only [r68_0, r68_1, c68, rs68, gc68, go_sem, ↓reduceIte, Nat.reduceLT, Nat.reduceEqDiff, Nat.reduceAdd, Nat.reduceMul, Nat.reduceSub, Int.reduceAdd, Int.reduceSub, Nat.reduceLeDiff, Int.reduceLT, Int.reduceLE, Int.reduceEq, Int.reduceNeg, Int.reduceToNat, hy])
  all_goals (try ((first | refine finQ_same ?_ | refine finQ_app ?_ | (rw [List.append_assoc]; refine finQ_app ?_)) <;> simp (disch := first | rfl | omega | exact lt_new _ | assumption | decide | (simp [tk_here, tk_app, tk_0, tk_S, gr_here, gr_app, gr_0, gr_S] <;> omega) | fail) only [go_sem, ↓reduceIte, Nat.reduceLT, Nat.reduceEqDiff, Nat.reduceAdd, Nat.reduceMul, Nat.reduceSub, Int.reduceAdd, Int.reduceSub, Nat.reduceLeDiff, Int.reduceLT, Int.reduceLE, Int.reduceEq, Int.reduceNeg, Int.reduceToNat, List.append_assoc, List.cons_append, List.nil_append, *]))
  all_goals (try first | rfl | (simp [*]; done) | grind)
theorem fn72 (n : Int) (H : Hp) : callL Try.prog pr 72 [.int .i64 n] H = some (.bool (okT n), H) := by
  refine run72 (Nat.le_of_ble_eq_true rfl) ?_
  unfold okT
  simp (disch := first | rfl | omega | exact lt_new _ | assumption | decide | (simp [tk_here, tk_app, tk_0, tk_S, gr_here, gr_app, gr_0, gr_S] <;> omega) | fail) only [r72_0, r72_1, c72, rs72, gc72, go_sem, ↓reduceIte, Nat.reduceLT, Nat.reduceEqDiff, Nat.reduceAdd, Nat.reduceMul, Nat.reduceSub, Int.reduceAdd, Int.reduceSub, Nat.reduceLeDiff, Int.reduceLT, Int.reduceLE, Int.reduceEq, Int.reduceNeg, Int.reduceToNat]
  repeat' ((first | refine guardB_dec (fun hy => ?_) (fun hy => ?_) | refine guardB_bool (fun hy => ?_) (fun hy => ?_) | refine guardQ_ite (fun hy => ?_) (fun hy => ?_) | refine brQ_dec (fun hy => ?_) (fun hy => ?_) | refine brQ_bool (fun hy => ?_) (fun hy => ?_)) <;> (try simp only [Bool.not_eq_true', Bool.not_eq_false', Bool.and_eq_true, Bool.or_eq_false_iff, decide_eq_true_eq, decide_eq_false_iff_not] at hy) <;> simp (disch := first | rfl | omega | exact lt_new _ | assumption | decide | (simp [tk_here, tk_app, tk_0, tk_S, gr_here, gr_app, gr_0, gr_S] <;> omega) | fail) only [r72_0, r72_1, c72, rs72, gc72, go_sem, ↓reduceIte, Nat.reduceLT, Nat.reduceEqDiff, Nat.reduceAdd, Nat.reduceMul, Nat.reduceSub, Int.reduceAdd, Int.reduceSub, Nat.reduceLeDiff, Int.reduceLT, Int.reduceLE, Int.reduceEq, Int.reduceNeg, Int.reduceToNat, hy])
  all_goals (try ((first | refine finQ_same ?_ | refine finQ_app ?_ | (rw [List.append_assoc]; refine finQ_app ?_)) <;> simp (disch := first | rfl | omega | exact lt_new _ | assumption | decide | (simp [tk_here, tk_app, tk_0, tk_S, gr_here, gr_app, gr_0, gr_S] <;> omega) | fail) only [go_sem, ↓reduceIte, Nat.reduceLT, Nat.reduceEqDiff, Nat.reduceAdd, Nat.reduceMul, Nat.reduceSub, Int.reduceAdd, Int.reduceSub, Nat.reduceLeDiff, Int.reduceLT, Int.reduceLE, Int.reduceEq, Int.reduceNeg, Int.reduceToNat, List.append_assoc, List.cons_append, List.nil_append, *]))
  all_goals (try first | rfl | (simp [*]; done) | grind)
/-- The first thing that is wrong. -/
def askE : List Cp → Int
  | [] => 0
  | c :: l => if valE c = 0 then askE l else valE c
theorem askE_drop {l : List Cp} {i : Nat} (h : i < l.length) : askE (l.drop i) = if valE (cpE.at l i) = 0 then askE (l.drop (i + 1)) else valE (cpE.at l i) := by
  rw [cpE.drop_at h]; rfl
theorem fn54 {b : Bool} {l : List Cp} (hok : ∀ c ∈ l, CpOk c) (hl : l.length ≤ 2 ^ 62) (H : Hp) : callL Try.prog pr 54 [slV b cpE l] H = some (.int .i64 (askE l), H) := by
  refine run54 (Nat.le_of_ble_eq_true rfl) ?_
  simp (disch := first | rfl | omega | exact lt_new _ | assumption | decide | (simp [tk_here, tk_app, tk_0, tk_S, gr_here, gr_app, gr_0, gr_S] <;> omega) | fail) only [r54_0, r54_1, r54_2, r54_3, r54_4, r54_5, r54_6, r54_7, r54_9, c54, rs54, gc54, go_sem, ↓reduceIte, Nat.reduceLT, Nat.reduceEqDiff, Nat.reduceAdd, Nat.reduceMul, Nat.reduceSub, Int.reduceAdd, Int.reduceSub, Nat.reduceLeDiff, Int.reduceLT, Int.reduceLE, Int.reduceEq, Int.reduceNeg, Int.reduceToNat]
  refine Wp_loop (fun m T D H' => ∃ i G, m = l.length - i ∧ i ≤ l.length ∧ D = [] ∧ H' = H ++ G ∧ get T 6 = slV b cpE l ∧ get T 7 = .int .i64 l.length ∧ get T 8 = .int .i64 i ∧ askE l = askE (l.drop i)) ?_ l.length _ _ _ ?_
  case refine_2 => exact ⟨0, [], by simp [go_sem]⟩
  rintro m T D H' ⟨i, G, rfl, hi, rfl, rfl, t6, t7, t8, hs⟩
  by_cases hlt : i < l.length
  · have hlt' : (i : Int) < l.length := by omega
    have h57 := fn57 (cpE.at l i) (hok _ (cpE.at_mem hlt))
    rw [askE_drop hlt] at hs
    by_cases hq : valE (cpE.at l i) = 0
    · rw [if_pos hq] at hs
      simp (disch := first | rfl | omega | exact lt_new _ | assumption | decide | (simp [tk_here, tk_app, tk_0, tk_S, gr_here, gr_app, gr_0, gr_S] <;> omega) | fail) only [r54_0, r54_1, r54_2, r54_3, r54_4, r54_5, r54_6, r54_7, l54_8, r54_9, c54, rs54, gc54, loadV_ptr, storeV_ptr, List.append_assoc, List.length_append, List.length_cons, List.length_nil, List.set_cons_zero, List.set_cons_succ, tk_here, tk_app, gr_here, gr_app, st_here, st_app, t6, t7, t8, hlt', h57, hq, go_sem, ↓reduceIte, Nat.reduceLT, Nat.reduceEqDiff, Nat.reduceAdd, Nat.reduceMul, Nat.reduceSub, Int.reduceAdd, Int.reduceSub, Nat.reduceLeDiff, Int.reduceLT, Int.reduceLE, Int.reduceEq, Int.reduceNeg, Int.reduceToNat]
      exact ⟨_, by omega, i + 1, _, rfl, hlt, rfl, rfl, hs⟩
    · rw [if_neg hq] at hs
      simp (disch := first | rfl | omega | exact lt_new _ | assumption | decide | (simp [tk_here, tk_app, tk_0, tk_S, gr_here, gr_app, gr_0, gr_S] <;> omega) | fail) only [r54_0, r54_1, r54_2, r54_3, r54_4, r54_5, r54_6, r54_7, l54_8, r54_9, c54, rs54, gc54, loadV_ptr, storeV_ptr, List.append_assoc, List.length_append, List.length_cons, List.length_nil, List.set_cons_zero, List.set_cons_succ, tk_here, tk_app, gr_here, gr_app, st_here, st_app, t6, t7, t8, hlt', h57, hq, go_sem, ↓reduceIte, Nat.reduceLT, Nat.reduceEqDiff, Nat.reduceAdd, Nat.reduceMul, Nat.reduceSub, Int.reduceAdd, Int.reduceSub, Nat.reduceLeDiff, Int.reduceLT, Int.reduceLE, Int.reduceEq, Int.reduceNeg, Int.reduceToNat]
      exact finQ_app (by simp (disch := first | rfl | omega | exact lt_new _ | assumption | decide | (simp [tk_here, tk_app, tk_0, tk_S, gr_here, gr_app, gr_0, gr_S] <;> omega) | fail) only [go_sem, ↓reduceIte, Nat.reduceLT, Nat.reduceEqDiff, Nat.reduceAdd, Nat.reduceMul, Nat.reduceSub, Int.reduceAdd, Int.reduceSub, Nat.reduceLeDiff, Int.reduceLT, Int.reduceLE, Int.reduceEq, Int.reduceNeg, Int.reduceToNat, hs])
  · obtain rfl : i = l.length := by omega
    rw [List.drop_length] at hs
    simp (disch := first | rfl | omega | exact lt_new _ | assumption | decide | (simp [tk_here, tk_app, tk_0, tk_S, gr_here, gr_app, gr_0, gr_S] <;> omega) | fail) only [r54_0, r54_1, r54_2, r54_3, r54_4, r54_5, r54_6, r54_7, l54_8, r54_9, c54, rs54, gc54, t6, t7, t8, Int.lt_irrefl, go_sem, ↓reduceIte, Nat.reduceLT, Nat.reduceEqDiff, Nat.reduceAdd, Nat.reduceMul, Nat.reduceSub, Int.reduceAdd, Int.reduceSub, Nat.reduceLeDiff, Int.reduceLT, Int.reduceLE, Int.reduceEq, Int.reduceNeg, Int.reduceToNat]
    exact finQ_app (by simp (disch := first | rfl | omega | exact lt_new _ | assumption | decide | (simp [tk_here, tk_app, tk_0, tk_S, gr_here, gr_app, gr_0, gr_S] <;> omega) | fail) only [go_sem, ↓reduceIte, Nat.reduceLT, Nat.reduceEqDiff, Nat.reduceAdd, Nat.reduceMul, Nat.reduceSub, Int.reduceAdd, Int.reduceSub, Nat.reduceLeDiff, Int.reduceLT, Int.reduceLE, Int.reduceEq, Int.reduceNeg, Int.reduceToNat, hs, askE])
theorem askE_one (c : Cp) : askE [c] = valE c := by
  simp only [askE]
  split <;> simp [*]
theorem ask1 (c : Cp) (hc : CpOk c) (H : Hp) : callL Try.prog pr 54 [.isl (cpE.f c) 1 5] H = some (.int .i64 (valE c), H) := by
  have := fn54 (b := false) (l := [c]) (by simpa using hc) (by simp) H
  rw [askE_one] at this
  rw [← this]
  simp [slV, flatE, cpE_w]
end Go.Proofs.Ytejkgnmjdaohdaa
