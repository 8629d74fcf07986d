/- The types of the program as Lean types, how they lie in cells, and what == says of them; by a program of this project (gen.py). -/
import Derived.Test.YthccncpephpdjaaN
import Derived.Test.YthccncpephpdjaaProg
set_option linter.unusedVariables false
set_option linter.unusedSimpArgs false
namespace Go.Proofs.Ythccncpephpdjaa
open E Go.RowKit
theorem infoT4_is : (Try.prog.info? 4).isSome = true := by kernel_rfl
noncomputable def infoT4_v : TypeInfo := (Try.prog.info? 4).get infoT4_is
theorem infoT4 : Try.prog.info? 4 = some infoT4_v := (Option.some_get _).symm
theorem infoT5_is : (Try.prog.info? 5).isSome = true := by kernel_rfl
noncomputable def infoT5_v : TypeInfo := (Try.prog.info? 5).get infoT5_is
theorem infoT5 : Try.prog.info? 5 = some infoT5_v := (Option.some_get _).symm
theorem infoT100_is : (Try.prog.info? 100).isSome = true := by kernel_rfl
noncomputable def infoT100_v : TypeInfo := (Try.prog.info? 100).get infoT100_is
theorem infoT100 : Try.prog.info? 100 = some infoT100_v := (Option.some_get _).symm
structure S_api_Addr where
  f_V : Int
  f_B : (Vector Int 16)
  deriving DecidableEq, Inhabited
def c_api_Addr : Cd S_api_Addr := ⟨17, fun x => Cd.cs (cInt .i64) x.f_V ++ (Cd.cs (cVec (cInt .u8) 16 (by decide)) x.f_B ++ []), fun x => by simp only [List.length_append, Cd.len, List.length_nil] <;> rfl, fun x v hv => by
  simp only [List.mem_append, List.not_mem_nil, or_false] at hv
  rcases hv with hv | hv
  all_goals exact Cd.one _ _ _ hv, by decide⟩
def ok_api_Addr (x : S_api_Addr) : Prop := (fun n : Int => (Lit.int .i64 n).wf = true) x.f_V ∧ (fun v : (Vector Int 16) => ∀ x ∈ v.toList, (fun n : Int => (Lit.int .u8 n).wf = true) x) x.f_B
theorem c_api_Addr_f_V (x : S_api_Addr) : Lens (c_api_Addr.cs x) 0 (cInt .i64) x.f_V (fun z => c_api_Addr.cs { x with f_V := z }) :=
  ⟨[], Cd.cs (cVec (cInt .u8) 16 (by decide)) x.f_B ++ [], by simp [c_api_Addr], by simp only [List.length_append, Cd.len, List.length_nil] <;> rfl, fun z => by simp [c_api_Addr]⟩
theorem c_api_Addr_f_B (x : S_api_Addr) : Lens (c_api_Addr.cs x) 1 (cVec (cInt .u8) 16 (by decide)) x.f_B (fun z => c_api_Addr.cs { x with f_B := z }) :=
  ⟨Cd.cs (cInt .i64) x.f_V ++ [], [], by simp [c_api_Addr], by simp only [List.length_append, Cd.len, List.length_nil] <;> rfl, fun z => by simp [c_api_Addr]⟩
theorem eq_api_Addr_32 : Eqs Try.prog 32 c_api_Addr true 2 := fun d hd x y w => by
  obtain ⟨d, rfl⟩ : ∃ e, d = e + 1 := ⟨d - 1, by omega⟩
  refine (run_eq_struct (xs := (c_api_Addr.cs x).toArray) (ys := (c_api_Addr.cs y).toArray) Try.underlying32 Try.stoodInHeld32).trans ?_
  refine Eq.trans (eqf_cons (c_api_Addr_f_V x) (c_api_Addr_f_V y) (by rfl) (by rfl) Try.isAgg3 Try.sizeOf3 (.inr rfl) (eqs_int Try.underlying3) (by omega) (eqf_cons (c_api_Addr_f_B x) (c_api_Addr_f_B y) (by rfl) (by rfl) Try.isAgg30 Try.sizeOf30 (.inl rfl) (eqs_vec Try.underlying30 infoT5 Try.sizeOf5 Try.isAgg5 (.inr rfl) (eqs_int Try.underlying5)) (by omega) eqf_nil)) ?_
  congr 1
  cases x; cases y
  rw [Bool.eq_iff_iff]; simp
theorem opn_api_Addr_32 : Opn Try.prog 32 c_api_Addr ok_api_Addr := fun enc w base spare held fuel cs d ps hd => by
  cases fuel with
  | zero => exact (opn_zero hd).elim
  | succ fuel =>
    obtain ⟨hlen, hf⟩ := opn_fields Try.underlying32 hd
    rw [show Try.prog.cellsOf 32 = 17 from by kernel_rfl] at hlen
    obtain ⟨d0, p0, h0⟩ : ∃ d' p', DataW.trod enc Try.prog w base spare held fuel 3 ((cs.drop 0).take (Try.prog.cellsOf 3)) = some (d', p') := hf 0 _ rfl
    obtain ⟨x0, e0, o0⟩ := (opn_int Try.underlying3) enc w base spare held fuel _ _ _ h0
    rw [show Try.prog.cellsOf 3 = 1 from by kernel_rfl] at e0
    obtain ⟨d1, p1, h1⟩ : ∃ d' p', DataW.trod enc Try.prog w base spare held fuel 30 ((cs.drop 1).take (Try.prog.cellsOf 30)) = some (d', p') := hf 1 _ rfl
    obtain ⟨x1, e1, o1⟩ := (opn_vec Try.underlying30 (by kernel_rfl) (by kernel_rfl) (opn_int Try.underlying5)) enc w base spare held fuel _ _ _ h1
    rw [show Try.prog.cellsOf 30 = 16 from by kernel_rfl] at e1
    refine ⟨⟨x0, x1⟩, ?_, o0, o1⟩
    show cs = Cd.cs (cInt .i64) x0 ++ (Cd.cs (cVec (cInt .u8) 16 (by decide)) x1 ++ [])
    rw [← e0, ← e1]
    exact (split_cons (l := cs) (o := 0) (k := 1) (split_cons (l := cs) (o := 1) (k := 16) (split_nil (l := cs) (o := 17) (by omega))))
theorem places_api_Addr_32 : ∀ w, ((#[{ name := "V", type := 3, offset := 0, embedded := false, tag := "", pkgPath := "", byteOffset := 0 }, { name := "B", type := 30, offset := 1, embedded := false, tag := "", pkgPath := "", byteOffset := 8 }] : Array Field).mapM fun f => (do pure (f.offset, ← sizeOf f.type) : Sem (Nat × Nat))).run Try.prog w = .ok #[(0, 1), (1, 16)] w := fun w => by
  simp [Try.sizeOf3 w, Try.sizeOf30 w]
structure S_api_Endpoint where
  f_A : S_api_Addr
  f_Port : Int
  deriving DecidableEq, Inhabited
def c_api_Endpoint : Cd S_api_Endpoint := ⟨18, fun x => Cd.cs c_api_Addr x.f_A ++ (Cd.cs (cInt .i64) x.f_Port ++ []), fun x => by simp only [List.length_append, Cd.len, List.length_nil] <;> rfl, fun x v hv => by
  simp only [List.mem_append, List.not_mem_nil, or_false] at hv
  rcases hv with hv | hv
  all_goals exact Cd.one _ _ _ hv, by decide⟩
def ok_api_Endpoint (x : S_api_Endpoint) : Prop := ok_api_Addr x.f_A ∧ (fun n : Int => (Lit.int .i64 n).wf = true) x.f_Port
theorem c_api_Endpoint_f_A (x : S_api_Endpoint) : Lens (c_api_Endpoint.cs x) 0 c_api_Addr x.f_A (fun z => c_api_Endpoint.cs { x with f_A := z }) :=
  ⟨[], Cd.cs (cInt .i64) x.f_Port ++ [], by simp [c_api_Endpoint], by simp only [List.length_append, Cd.len, List.length_nil] <;> rfl, fun z => by simp [c_api_Endpoint]⟩
theorem c_api_Endpoint_f_Port (x : S_api_Endpoint) : Lens (c_api_Endpoint.cs x) 17 (cInt .i64) x.f_Port (fun z => c_api_Endpoint.cs { x with f_Port := z }) :=
  ⟨Cd.cs c_api_Addr x.f_A ++ [], [], by simp [c_api_Endpoint], by simp only [List.length_append, Cd.len, List.length_nil] <;> rfl, fun z => by simp [c_api_Endpoint]⟩
theorem eq_api_Endpoint_34 : Eqs Try.prog 34 c_api_Endpoint true 3 := fun d hd x y w => by
  obtain ⟨d, rfl⟩ : ∃ e, d = e + 1 := ⟨d - 1, by omega⟩
  refine (run_eq_struct (xs := (c_api_Endpoint.cs x).toArray) (ys := (c_api_Endpoint.cs y).toArray) Try.underlying34 Try.stoodInHeld34).trans ?_
  refine Eq.trans (eqf_cons (c_api_Endpoint_f_A x) (c_api_Endpoint_f_A y) (by rfl) (by rfl) Try.isAgg32 Try.sizeOf32 (.inl rfl) (eq_api_Addr_32) (by omega) (eqf_cons (c_api_Endpoint_f_Port x) (c_api_Endpoint_f_Port y) (by rfl) (by rfl) Try.isAgg3 Try.sizeOf3 (.inr rfl) (eqs_int Try.underlying3) (by omega) eqf_nil)) ?_
  congr 1
  cases x; cases y
  rw [Bool.eq_iff_iff]; simp
theorem opn_api_Endpoint_34 : Opn Try.prog 34 c_api_Endpoint ok_api_Endpoint := fun enc w base spare held fuel cs d ps hd => by
  cases fuel with
  | zero => exact (opn_zero hd).elim
  | succ fuel =>
    obtain ⟨hlen, hf⟩ := opn_fields Try.underlying34 hd
    rw [show Try.prog.cellsOf 34 = 18 from by kernel_rfl] at hlen
    obtain ⟨d0, p0, h0⟩ : ∃ d' p', DataW.trod enc Try.prog w base spare held fuel 32 ((cs.drop 0).take (Try.prog.cellsOf 32)) = some (d', p') := hf 0 _ rfl
    obtain ⟨x0, e0, o0⟩ := (opn_api_Addr_32) enc w base spare held fuel _ _ _ h0
    rw [show Try.prog.cellsOf 32 = 17 from by kernel_rfl] at e0
    obtain ⟨d1, p1, h1⟩ : ∃ d' p', DataW.trod enc Try.prog w base spare held fuel 3 ((cs.drop 17).take (Try.prog.cellsOf 3)) = some (d', p') := hf 1 _ rfl
    obtain ⟨x1, e1, o1⟩ := (opn_int Try.underlying3) enc w base spare held fuel _ _ _ h1
    rw [show Try.prog.cellsOf 3 = 1 from by kernel_rfl] at e1
    refine ⟨⟨x0, x1⟩, ?_, o0, o1⟩
    show cs = Cd.cs c_api_Addr x0 ++ (Cd.cs (cInt .i64) x1 ++ [])
    rw [← e0, ← e1]
    exact (split_cons (l := cs) (o := 0) (k := 17) (split_cons (l := cs) (o := 17) (k := 1) (split_nil (l := cs) (o := 18) (by omega))))
theorem places_api_Endpoint_34 : ∀ w, ((#[{ name := "A", type := 32, offset := 0, embedded := false, tag := "", pkgPath := "", byteOffset := 0 }, { name := "Port", type := 3, offset := 17, embedded := false, tag := "", pkgPath := "", byteOffset := 24 }] : Array Field).mapM fun f => (do pure (f.offset, ← sizeOf f.type) : Sem (Nat × Nat))).run Try.prog w = .ok #[(0, 17), (17, 1)] w := fun w => by
  simp [Try.sizeOf32 w, Try.sizeOf3 w]
structure S_api_Prefix where
  f_A : S_api_Addr
  f_Bits : Int
  deriving DecidableEq, Inhabited
def c_api_Prefix : Cd S_api_Prefix := ⟨18, fun x => Cd.cs c_api_Addr x.f_A ++ (Cd.cs (cInt .i64) x.f_Bits ++ []), fun x => by simp only [List.length_append, Cd.len, List.length_nil] <;> rfl, fun x v hv => by
  simp only [List.mem_append, List.not_mem_nil, or_false] at hv
  rcases hv with hv | hv
  all_goals exact Cd.one _ _ _ hv, by decide⟩
def ok_api_Prefix (x : S_api_Prefix) : Prop := ok_api_Addr x.f_A ∧ (fun n : Int => (Lit.int .i64 n).wf = true) x.f_Bits
theorem c_api_Prefix_f_A (x : S_api_Prefix) : Lens (c_api_Prefix.cs x) 0 c_api_Addr x.f_A (fun z => c_api_Prefix.cs { x with f_A := z }) :=
  ⟨[], Cd.cs (cInt .i64) x.f_Bits ++ [], by simp [c_api_Prefix], by simp only [List.length_append, Cd.len, List.length_nil] <;> rfl, fun z => by simp [c_api_Prefix]⟩
theorem c_api_Prefix_f_Bits (x : S_api_Prefix) : Lens (c_api_Prefix.cs x) 17 (cInt .i64) x.f_Bits (fun z => c_api_Prefix.cs { x with f_Bits := z }) :=
  ⟨Cd.cs c_api_Addr x.f_A ++ [], [], by simp [c_api_Prefix], by simp only [List.length_append, Cd.len, List.length_nil] <;> rfl, fun z => by simp [c_api_Prefix]⟩
theorem eq_api_Prefix_46 : Eqs Try.prog 46 c_api_Prefix true 3 := fun d hd x y w => by
  obtain ⟨d, rfl⟩ : ∃ e, d = e + 1 := ⟨d - 1, by omega⟩
  refine (run_eq_struct (xs := (c_api_Prefix.cs x).toArray) (ys := (c_api_Prefix.cs y).toArray) Try.underlying46 Try.stoodInHeld46).trans ?_
  refine Eq.trans (eqf_cons (c_api_Prefix_f_A x) (c_api_Prefix_f_A y) (by rfl) (by rfl) Try.isAgg32 Try.sizeOf32 (.inl rfl) (eq_api_Addr_32) (by omega) (eqf_cons (c_api_Prefix_f_Bits x) (c_api_Prefix_f_Bits y) (by rfl) (by rfl) Try.isAgg3 Try.sizeOf3 (.inr rfl) (eqs_int Try.underlying3) (by omega) eqf_nil)) ?_
  congr 1
  cases x; cases y
  rw [Bool.eq_iff_iff]; simp
theorem opn_api_Prefix_46 : Opn Try.prog 46 c_api_Prefix ok_api_Prefix := fun enc w base spare held fuel cs d ps hd => by
  cases fuel with
  | zero => exact (opn_zero hd).elim
  | succ fuel =>
    obtain ⟨hlen, hf⟩ := opn_fields Try.underlying46 hd
    rw [show Try.prog.cellsOf 46 = 18 from by kernel_rfl] at hlen
    obtain ⟨d0, p0, h0⟩ : ∃ d' p', DataW.trod enc Try.prog w base spare held fuel 32 ((cs.drop 0).take (Try.prog.cellsOf 32)) = some (d', p') := hf 0 _ rfl
    obtain ⟨x0, e0, o0⟩ := (opn_api_Addr_32) enc w base spare held fuel _ _ _ h0
    rw [show Try.prog.cellsOf 32 = 17 from by kernel_rfl] at e0
    obtain ⟨d1, p1, h1⟩ : ∃ d' p', DataW.trod enc Try.prog w base spare held fuel 3 ((cs.drop 17).take (Try.prog.cellsOf 3)) = some (d', p') := hf 1 _ rfl
    obtain ⟨x1, e1, o1⟩ := (opn_int Try.underlying3) enc w base spare held fuel _ _ _ h1
    rw [show Try.prog.cellsOf 3 = 1 from by kernel_rfl] at e1
    refine ⟨⟨x0, x1⟩, ?_, o0, o1⟩
    show cs = Cd.cs c_api_Addr x0 ++ (Cd.cs (cInt .i64) x1 ++ [])
    rw [← e0, ← e1]
    exact (split_cons (l := cs) (o := 0) (k := 17) (split_cons (l := cs) (o := 17) (k := 1) (split_nil (l := cs) (o := 18) (by omega))))
theorem places_api_Prefix_46 : ∀ w, ((#[{ name := "A", type := 32, offset := 0, embedded := false, tag := "", pkgPath := "", byteOffset := 0 }, { name := "Bits", type := 3, offset := 17, embedded := false, tag := "", pkgPath := "", byteOffset := 24 }] : Array Field).mapM fun f => (do pure (f.offset, ← sizeOf f.type) : Sem (Nat × Nat))).run Try.prog w = .ok #[(0, 17), (17, 1)] w := fun w => by
  simp [Try.sizeOf32 w, Try.sizeOf3 w]
structure S_api_PeerChange where
  f_Key : (Vector Int 32)
  f_Remove : Bool
  f_Update : Bool
  f_HasPsk : Bool
  f_Psk : (Vector Int 32)
  f_HasEnd : Bool
  f_End : S_api_Endpoint
  f_HasKeep : Bool
  f_Keep : Int
  f_Replace : Bool
  f_Allowed : List S_api_Prefix
  deriving DecidableEq, Inhabited
abbrev G_api_PeerChange := (Option Addr × Nat)
def c_api_PeerChange : Cd (G_api_PeerChange × S_api_PeerChange) := ⟨90, fun z => Cd.cs (cVec (cInt .u8) 32 (by decide)) z.2.f_Key ++ (Cd.cs cBool z.2.f_Remove ++ (Cd.cs cBool z.2.f_Update ++ (Cd.cs cBool z.2.f_HasPsk ++ (Cd.cs (cVec (cInt .u8) 32 (by decide)) z.2.f_Psk ++ (Cd.cs cBool z.2.f_HasEnd ++ (Cd.cs c_api_Endpoint z.2.f_End ++ (Cd.cs cBool z.2.f_HasKeep ++ (Cd.cs (cInt .i64) z.2.f_Keep ++ (Cd.cs cBool z.2.f_Replace ++ (Cd.cs cHd ⟨z.1.1, List.length z.2.f_Allowed, z.1.2⟩ ++ [])))))))))), fun x => by simp only [List.length_append, Cd.len, List.length_nil] <;> rfl, fun x v hv => by
  simp only [List.mem_append, List.not_mem_nil, or_false] at hv
  rcases hv with hv | hv | hv | hv | hv | hv | hv | hv | hv | hv | hv
  all_goals exact Cd.one _ _ _ hv, by decide⟩
def ok_api_PeerChange (x : S_api_PeerChange) : Prop := (fun v : (Vector Int 32) => ∀ x ∈ v.toList, (fun n : Int => (Lit.int .u8 n).wf = true) x) x.f_Key ∧ (fun _ : Bool => True) x.f_Remove ∧ (fun _ : Bool => True) x.f_Update ∧ (fun _ : Bool => True) x.f_HasPsk ∧ (fun v : (Vector Int 32) => ∀ x ∈ v.toList, (fun n : Int => (Lit.int .u8 n).wf = true) x) x.f_Psk ∧ (fun _ : Bool => True) x.f_HasEnd ∧ ok_api_Endpoint x.f_End ∧ (fun _ : Bool => True) x.f_HasKeep ∧ (fun n : Int => (Lit.int .i64 n).wf = true) x.f_Keep ∧ (fun _ : Bool => True) x.f_Replace ∧ (fun l : List S_api_Prefix => ∀ x ∈ l, ok_api_Prefix x) x.f_Allowed
def N_api_PeerChange (w : World) (z : G_api_PeerChange × S_api_PeerChange) : Prop := Row c_api_Prefix w z.1.1 z.1.2 z.2.f_Allowed
theorem N_api_PeerChange.below {w w' : World} {z : G_api_PeerChange × S_api_PeerChange} (h : N_api_PeerChange w z) (hb : Below w.heap.size w w') : N_api_PeerChange w' z := Row.below h hb
abbrev NR_api_PeerChange (w : World) (p : Option Addr) (cap : Nat) (xs : List S_api_PeerChange) : Prop := NRow c_api_PeerChange N_api_PeerChange w p cap xs
theorem NR_api_PeerChange.below {w w' : World} {p : Option Addr} {cap : Nat} {xs : List S_api_PeerChange} (h : NR_api_PeerChange w p cap xs) (hb : Below w.heap.size w w') : NR_api_PeerChange w' p cap xs := NRow.below h hb fun z hz => N_api_PeerChange.below hz hb
theorem c_api_PeerChange_f_Key (g : G_api_PeerChange) (x : S_api_PeerChange) : Lens (c_api_PeerChange.cs (g, x)) 0 (cVec (cInt .u8) 32 (by decide)) x.f_Key (fun z => c_api_PeerChange.cs (g, { x with f_Key := z })) :=
  ⟨[], Cd.cs cBool x.f_Remove ++ (Cd.cs cBool x.f_Update ++ (Cd.cs cBool x.f_HasPsk ++ (Cd.cs (cVec (cInt .u8) 32 (by decide)) x.f_Psk ++ (Cd.cs cBool x.f_HasEnd ++ (Cd.cs c_api_Endpoint x.f_End ++ (Cd.cs cBool x.f_HasKeep ++ (Cd.cs (cInt .i64) x.f_Keep ++ (Cd.cs cBool x.f_Replace ++ (Cd.cs cHd ⟨g.1, List.length x.f_Allowed, g.2⟩ ++ []))))))))), by simp [c_api_PeerChange], by simp only [List.length_append, Cd.len, List.length_nil] <;> rfl, fun z => by simp [c_api_PeerChange]⟩
theorem c_api_PeerChange_f_Remove (g : G_api_PeerChange) (x : S_api_PeerChange) : Lens (c_api_PeerChange.cs (g, x)) 32 cBool x.f_Remove (fun z => c_api_PeerChange.cs (g, { x with f_Remove := z })) :=
  ⟨Cd.cs (cVec (cInt .u8) 32 (by decide)) x.f_Key ++ [], Cd.cs cBool x.f_Update ++ (Cd.cs cBool x.f_HasPsk ++ (Cd.cs (cVec (cInt .u8) 32 (by decide)) x.f_Psk ++ (Cd.cs cBool x.f_HasEnd ++ (Cd.cs c_api_Endpoint x.f_End ++ (Cd.cs cBool x.f_HasKeep ++ (Cd.cs (cInt .i64) x.f_Keep ++ (Cd.cs cBool x.f_Replace ++ (Cd.cs cHd ⟨g.1, List.length x.f_Allowed, g.2⟩ ++ [])))))))), by simp [c_api_PeerChange], by simp only [List.length_append, Cd.len, List.length_nil] <;> rfl, fun z => by simp [c_api_PeerChange]⟩
theorem c_api_PeerChange_f_Update (g : G_api_PeerChange) (x : S_api_PeerChange) : Lens (c_api_PeerChange.cs (g, x)) 33 cBool x.f_Update (fun z => c_api_PeerChange.cs (g, { x with f_Update := z })) :=
  ⟨Cd.cs (cVec (cInt .u8) 32 (by decide)) x.f_Key ++ (Cd.cs cBool x.f_Remove ++ []), Cd.cs cBool x.f_HasPsk ++ (Cd.cs (cVec (cInt .u8) 32 (by decide)) x.f_Psk ++ (Cd.cs cBool x.f_HasEnd ++ (Cd.cs c_api_Endpoint x.f_End ++ (Cd.cs cBool x.f_HasKeep ++ (Cd.cs (cInt .i64) x.f_Keep ++ (Cd.cs cBool x.f_Replace ++ (Cd.cs cHd ⟨g.1, List.length x.f_Allowed, g.2⟩ ++ []))))))), by simp [c_api_PeerChange], by simp only [List.length_append, Cd.len, List.length_nil] <;> rfl, fun z => by simp [c_api_PeerChange]⟩
theorem c_api_PeerChange_f_HasPsk (g : G_api_PeerChange) (x : S_api_PeerChange) : Lens (c_api_PeerChange.cs (g, x)) 34 cBool x.f_HasPsk (fun z => c_api_PeerChange.cs (g, { x with f_HasPsk := z })) :=
  ⟨Cd.cs (cVec (cInt .u8) 32 (by decide)) x.f_Key ++ (Cd.cs cBool x.f_Remove ++ (Cd.cs cBool x.f_Update ++ [])), Cd.cs (cVec (cInt .u8) 32 (by decide)) x.f_Psk ++ (Cd.cs cBool x.f_HasEnd ++ (Cd.cs c_api_Endpoint x.f_End ++ (Cd.cs cBool x.f_HasKeep ++ (Cd.cs (cInt .i64) x.f_Keep ++ (Cd.cs cBool x.f_Replace ++ (Cd.cs cHd ⟨g.1, List.length x.f_Allowed, g.2⟩ ++ [])))))), by simp [c_api_PeerChange], by simp only [List.length_append, Cd.len, List.length_nil] <;> rfl, fun z => by simp [c_api_PeerChange]⟩
theorem c_api_PeerChange_f_Psk (g : G_api_PeerChange) (x : S_api_PeerChange) : Lens (c_api_PeerChange.cs (g, x)) 35 (cVec (cInt .u8) 32 (by decide)) x.f_Psk (fun z => c_api_PeerChange.cs (g, { x with f_Psk := z })) :=
  ⟨Cd.cs (cVec (cInt .u8) 32 (by decide)) x.f_Key ++ (Cd.cs cBool x.f_Remove ++ (Cd.cs cBool x.f_Update ++ (Cd.cs cBool x.f_HasPsk ++ []))), Cd.cs cBool x.f_HasEnd ++ (Cd.cs c_api_Endpoint x.f_End ++ (Cd.cs cBool x.f_HasKeep ++ (Cd.cs (cInt .i64) x.f_Keep ++ (Cd.cs cBool x.f_Replace ++ (Cd.cs cHd ⟨g.1, List.length x.f_Allowed, g.2⟩ ++ []))))), by simp [c_api_PeerChange], by simp only [List.length_append, Cd.len, List.length_nil] <;> rfl, fun z => by simp [c_api_PeerChange]⟩
theorem c_api_PeerChange_f_HasEnd (g : G_api_PeerChange) (x : S_api_PeerChange) : Lens (c_api_PeerChange.cs (g, x)) 67 cBool x.f_HasEnd (fun z => c_api_PeerChange.cs (g, { x with f_HasEnd := z })) :=
  ⟨Cd.cs (cVec (cInt .u8) 32 (by decide)) x.f_Key ++ (Cd.cs cBool x.f_Remove ++ (Cd.cs cBool x.f_Update ++ (Cd.cs cBool x.f_HasPsk ++ (Cd.cs (cVec (cInt .u8) 32 (by decide)) x.f_Psk ++ [])))), Cd.cs c_api_Endpoint x.f_End ++ (Cd.cs cBool x.f_HasKeep ++ (Cd.cs (cInt .i64) x.f_Keep ++ (Cd.cs cBool x.f_Replace ++ (Cd.cs cHd ⟨g.1, List.length x.f_Allowed, g.2⟩ ++ [])))), by simp [c_api_PeerChange], by simp only [List.length_append, Cd.len, List.length_nil] <;> rfl, fun z => by simp [c_api_PeerChange]⟩
theorem c_api_PeerChange_f_End (g : G_api_PeerChange) (x : S_api_PeerChange) : Lens (c_api_PeerChange.cs (g, x)) 68 c_api_Endpoint x.f_End (fun z => c_api_PeerChange.cs (g, { x with f_End := z })) :=
  ⟨Cd.cs (cVec (cInt .u8) 32 (by decide)) x.f_Key ++ (Cd.cs cBool x.f_Remove ++ (Cd.cs cBool x.f_Update ++ (Cd.cs cBool x.f_HasPsk ++ (Cd.cs (cVec (cInt .u8) 32 (by decide)) x.f_Psk ++ (Cd.cs cBool x.f_HasEnd ++ []))))), Cd.cs cBool x.f_HasKeep ++ (Cd.cs (cInt .i64) x.f_Keep ++ (Cd.cs cBool x.f_Replace ++ (Cd.cs cHd ⟨g.1, List.length x.f_Allowed, g.2⟩ ++ []))), by simp [c_api_PeerChange], by simp only [List.length_append, Cd.len, List.length_nil] <;> rfl, fun z => by simp [c_api_PeerChange]⟩
theorem c_api_PeerChange_f_HasKeep (g : G_api_PeerChange) (x : S_api_PeerChange) : Lens (c_api_PeerChange.cs (g, x)) 86 cBool x.f_HasKeep (fun z => c_api_PeerChange.cs (g, { x with f_HasKeep := z })) :=
  ⟨Cd.cs (cVec (cInt .u8) 32 (by decide)) x.f_Key ++ (Cd.cs cBool x.f_Remove ++ (Cd.cs cBool x.f_Update ++ (Cd.cs cBool x.f_HasPsk ++ (Cd.cs (cVec (cInt .u8) 32 (by decide)) x.f_Psk ++ (Cd.cs cBool x.f_HasEnd ++ (Cd.cs c_api_Endpoint x.f_End ++ [])))))), Cd.cs (cInt .i64) x.f_Keep ++ (Cd.cs cBool x.f_Replace ++ (Cd.cs cHd ⟨g.1, List.length x.f_Allowed, g.2⟩ ++ [])), by simp [c_api_PeerChange], by simp only [List.length_append, Cd.len, List.length_nil] <;> rfl, fun z => by simp [c_api_PeerChange]⟩
theorem c_api_PeerChange_f_Keep (g : G_api_PeerChange) (x : S_api_PeerChange) : Lens (c_api_PeerChange.cs (g, x)) 87 (cInt .i64) x.f_Keep (fun z => c_api_PeerChange.cs (g, { x with f_Keep := z })) :=
  ⟨Cd.cs (cVec (cInt .u8) 32 (by decide)) x.f_Key ++ (Cd.cs cBool x.f_Remove ++ (Cd.cs cBool x.f_Update ++ (Cd.cs cBool x.f_HasPsk ++ (Cd.cs (cVec (cInt .u8) 32 (by decide)) x.f_Psk ++ (Cd.cs cBool x.f_HasEnd ++ (Cd.cs c_api_Endpoint x.f_End ++ (Cd.cs cBool x.f_HasKeep ++ []))))))), Cd.cs cBool x.f_Replace ++ (Cd.cs cHd ⟨g.1, List.length x.f_Allowed, g.2⟩ ++ []), by simp [c_api_PeerChange], by simp only [List.length_append, Cd.len, List.length_nil] <;> rfl, fun z => by simp [c_api_PeerChange]⟩
theorem c_api_PeerChange_f_Replace (g : G_api_PeerChange) (x : S_api_PeerChange) : Lens (c_api_PeerChange.cs (g, x)) 88 cBool x.f_Replace (fun z => c_api_PeerChange.cs (g, { x with f_Replace := z })) :=
  ⟨Cd.cs (cVec (cInt .u8) 32 (by decide)) x.f_Key ++ (Cd.cs cBool x.f_Remove ++ (Cd.cs cBool x.f_Update ++ (Cd.cs cBool x.f_HasPsk ++ (Cd.cs (cVec (cInt .u8) 32 (by decide)) x.f_Psk ++ (Cd.cs cBool x.f_HasEnd ++ (Cd.cs c_api_Endpoint x.f_End ++ (Cd.cs cBool x.f_HasKeep ++ (Cd.cs (cInt .i64) x.f_Keep ++ [])))))))), Cd.cs cHd ⟨g.1, List.length x.f_Allowed, g.2⟩ ++ [], by simp [c_api_PeerChange], by simp only [List.length_append, Cd.len, List.length_nil] <;> rfl, fun z => by simp [c_api_PeerChange]⟩
theorem c_api_PeerChange_f_Allowed (g : G_api_PeerChange) (x : S_api_PeerChange) : Lens (c_api_PeerChange.cs (g, x)) 89 cHd ⟨g.1, List.length x.f_Allowed, g.2⟩ (fun h => Cd.cs (cVec (cInt .u8) 32 (by decide)) x.f_Key ++ (Cd.cs cBool x.f_Remove ++ (Cd.cs cBool x.f_Update ++ (Cd.cs cBool x.f_HasPsk ++ (Cd.cs (cVec (cInt .u8) 32 (by decide)) x.f_Psk ++ (Cd.cs cBool x.f_HasEnd ++ (Cd.cs c_api_Endpoint x.f_End ++ (Cd.cs cBool x.f_HasKeep ++ (Cd.cs (cInt .i64) x.f_Keep ++ (Cd.cs cBool x.f_Replace ++ (Cd.cs cHd h ++ []))))))))))) :=
  ⟨Cd.cs (cVec (cInt .u8) 32 (by decide)) x.f_Key ++ (Cd.cs cBool x.f_Remove ++ (Cd.cs cBool x.f_Update ++ (Cd.cs cBool x.f_HasPsk ++ (Cd.cs (cVec (cInt .u8) 32 (by decide)) x.f_Psk ++ (Cd.cs cBool x.f_HasEnd ++ (Cd.cs c_api_Endpoint x.f_End ++ (Cd.cs cBool x.f_HasKeep ++ (Cd.cs (cInt .i64) x.f_Keep ++ (Cd.cs cBool x.f_Replace ++ []))))))))), [], by simp [c_api_PeerChange], by simp only [List.length_append, Cd.len, List.length_nil] <;> rfl, fun z => by simp⟩
theorem opn_api_PeerChange_37 : OpnW Try.prog 37 c_api_PeerChange (fun w z => ok_api_PeerChange z.2 ∧ N_api_PeerChange w z) := fun enc w base spare held fuel cs d ps hd => by
  cases fuel with
  | zero => exact (opn_zero hd).elim
  | succ fuel =>
    obtain ⟨hlen, hf⟩ := opn_fields Try.underlying37 hd
    rw [show Try.prog.cellsOf 37 = 90 from by kernel_rfl] at hlen
    obtain ⟨d0, p0, h0⟩ : ∃ d' p', DataW.trod enc Try.prog w base spare held fuel 23 ((cs.drop 0).take (Try.prog.cellsOf 23)) = some (d', p') := hf 0 _ rfl
    obtain ⟨x0, e0, o0⟩ := (opn_vec Try.underlying23 (by kernel_rfl) (by kernel_rfl) (opn_int Try.underlying5)) enc w base spare held fuel _ _ _ h0
    rw [show Try.prog.cellsOf 23 = 32 from by kernel_rfl] at e0
    obtain ⟨d1, p1, h1⟩ : ∃ d' p', DataW.trod enc Try.prog w base spare held fuel 4 ((cs.drop 32).take (Try.prog.cellsOf 4)) = some (d', p') := hf 1 _ rfl
    obtain ⟨x1, e1, o1⟩ := (opn_bool Try.underlying4) enc w base spare held fuel _ _ _ h1
    rw [show Try.prog.cellsOf 4 = 1 from by kernel_rfl] at e1
    obtain ⟨d2, p2, h2⟩ : ∃ d' p', DataW.trod enc Try.prog w base spare held fuel 4 ((cs.drop 33).take (Try.prog.cellsOf 4)) = some (d', p') := hf 2 _ rfl
    obtain ⟨x2, e2, o2⟩ := (opn_bool Try.underlying4) enc w base spare held fuel _ _ _ h2
    rw [show Try.prog.cellsOf 4 = 1 from by kernel_rfl] at e2
    obtain ⟨d3, p3, h3⟩ : ∃ d' p', DataW.trod enc Try.prog w base spare held fuel 4 ((cs.drop 34).take (Try.prog.cellsOf 4)) = some (d', p') := hf 3 _ rfl
    obtain ⟨x3, e3, o3⟩ := (opn_bool Try.underlying4) enc w base spare held fuel _ _ _ h3
    rw [show Try.prog.cellsOf 4 = 1 from by kernel_rfl] at e3
    obtain ⟨d4, p4, h4⟩ : ∃ d' p', DataW.trod enc Try.prog w base spare held fuel 23 ((cs.drop 35).take (Try.prog.cellsOf 23)) = some (d', p') := hf 4 _ rfl
    obtain ⟨x4, e4, o4⟩ := (opn_vec Try.underlying23 (by kernel_rfl) (by kernel_rfl) (opn_int Try.underlying5)) enc w base spare held fuel _ _ _ h4
    rw [show Try.prog.cellsOf 23 = 32 from by kernel_rfl] at e4
    obtain ⟨d5, p5, h5⟩ : ∃ d' p', DataW.trod enc Try.prog w base spare held fuel 4 ((cs.drop 67).take (Try.prog.cellsOf 4)) = some (d', p') := hf 5 _ rfl
    obtain ⟨x5, e5, o5⟩ := (opn_bool Try.underlying4) enc w base spare held fuel _ _ _ h5
    rw [show Try.prog.cellsOf 4 = 1 from by kernel_rfl] at e5
    obtain ⟨d6, p6, h6⟩ : ∃ d' p', DataW.trod enc Try.prog w base spare held fuel 34 ((cs.drop 68).take (Try.prog.cellsOf 34)) = some (d', p') := hf 6 _ rfl
    obtain ⟨x6, e6, o6⟩ := (opn_api_Endpoint_34) enc w base spare held fuel _ _ _ h6
    rw [show Try.prog.cellsOf 34 = 18 from by kernel_rfl] at e6
    obtain ⟨d7, p7, h7⟩ : ∃ d' p', DataW.trod enc Try.prog w base spare held fuel 4 ((cs.drop 86).take (Try.prog.cellsOf 4)) = some (d', p') := hf 7 _ rfl
    obtain ⟨x7, e7, o7⟩ := (opn_bool Try.underlying4) enc w base spare held fuel _ _ _ h7
    rw [show Try.prog.cellsOf 4 = 1 from by kernel_rfl] at e7
    obtain ⟨d8, p8, h8⟩ : ∃ d' p', DataW.trod enc Try.prog w base spare held fuel 3 ((cs.drop 87).take (Try.prog.cellsOf 3)) = some (d', p') := hf 8 _ rfl
    obtain ⟨x8, e8, o8⟩ := (opn_int Try.underlying3) enc w base spare held fuel _ _ _ h8
    rw [show Try.prog.cellsOf 3 = 1 from by kernel_rfl] at e8
    obtain ⟨d9, p9, h9⟩ : ∃ d' p', DataW.trod enc Try.prog w base spare held fuel 4 ((cs.drop 88).take (Try.prog.cellsOf 4)) = some (d', p') := hf 9 _ rfl
    obtain ⟨x9, e9, o9⟩ := (opn_bool Try.underlying4) enc w base spare held fuel _ _ _ h9
    rw [show Try.prog.cellsOf 4 = 1 from by kernel_rfl] at e9
    obtain ⟨d10, p10, h10⟩ : ∃ d' p', DataW.trod enc Try.prog w base spare held fuel 35 ((cs.drop 89).take (Try.prog.cellsOf 35)) = some (d', p') := hf 10 _ rfl
    obtain ⟨a10, k10, x10, e10, r10, o10⟩ := row_trod (c := c_api_Prefix) Try.underlying35 (by kernel_rfl) (opn_up (opn_api_Prefix_46)) h10
    rw [show Try.prog.cellsOf 35 = 1 from by kernel_rfl] at e10
    refine ⟨((a10, k10), ⟨x0, x1, x2, x3, x4, x5, x6, x7, x8, x9, x10⟩), ?_, ⟨o0, o1, o2, o3, o4, o5, o6, o7, o8, o9, o10⟩, r10⟩
    have hz : cs = Cd.cs (cVec (cInt .u8) 32 (by decide)) x0 ++ (Cd.cs cBool x1 ++ (Cd.cs cBool x2 ++ (Cd.cs cBool x3 ++ (Cd.cs (cVec (cInt .u8) 32 (by decide)) x4 ++ (Cd.cs cBool x5 ++ (Cd.cs c_api_Endpoint x6 ++ (Cd.cs cBool x7 ++ (Cd.cs (cInt .i64) x8 ++ (Cd.cs cBool x9 ++ ([Value.slice a10 x10.length k10] ++ [])))))))))) := by
      rw [← e0, ← e1, ← e2, ← e3, ← e4, ← e5, ← e6, ← e7, ← e8, ← e9, ← e10]
      exact (split_cons (l := cs) (o := 0) (k := 32) (split_cons (l := cs) (o := 32) (k := 1) (split_cons (l := cs) (o := 33) (k := 1) (split_cons (l := cs) (o := 34) (k := 1) (split_cons (l := cs) (o := 35) (k := 32) (split_cons (l := cs) (o := 67) (k := 1) (split_cons (l := cs) (o := 68) (k := 18) (split_cons (l := cs) (o := 86) (k := 1) (split_cons (l := cs) (o := 87) (k := 1) (split_cons (l := cs) (o := 88) (k := 1) (split_cons (l := cs) (o := 89) (k := 1) (split_nil (l := cs) (o := 90) (by omega)))))))))))))
    rw [hz]
    simp [c_api_PeerChange, cHd]
theorem places_api_PeerChange_37 : ∀ w, ((#[{ name := "Key", type := 23, offset := 0, embedded := false, tag := "", pkgPath := "", byteOffset := 0 }, { name := "Remove", type := 4, offset := 32, embedded := false, tag := "", pkgPath := "", byteOffset := 32 }, { name := "Update", type := 4, offset := 33, embedded := false, tag := "", pkgPath := "", byteOffset := 33 }, { name := "HasPsk", type := 4, offset := 34, embedded := false, tag := "", pkgPath := "", byteOffset := 34 }, { name := "Psk", type := 23, offset := 35, embedded := false, tag := "", pkgPath := "", byteOffset := 35 }, { name := "HasEnd", type := 4, offset := 67, embedded := false, tag := "", pkgPath := "", byteOffset := 67 }, { name := "End", type := 34, offset := 68, embedded := false, tag := "", pkgPath := "", byteOffset := 72 }, { name := "HasKeep", type := 4, offset := 86, embedded := false, tag := "", pkgPath := "", byteOffset := 104 }, { name := "Keep", type := 3, offset := 87, embedded := false, tag := "", pkgPath := "", byteOffset := 112 }, { name := "Replace", type := 4, offset := 88, embedded := false, tag := "", pkgPath := "", byteOffset := 120 }, { name := "Allowed", type := 35, offset := 89, embedded := false, tag := "", pkgPath := "", byteOffset := 128 }] : Array Field).mapM fun f => (do pure (f.offset, ← sizeOf f.type) : Sem (Nat × Nat))).run Try.prog w = .ok #[(0, 32), (32, 1), (33, 1), (34, 1), (35, 32), (67, 1), (68, 18), (86, 1), (87, 1), (88, 1), (89, 1)] w := fun w => by
  simp [Try.sizeOf23 w, Try.sizeOf4 w, Try.sizeOf4 w, Try.sizeOf4 w, Try.sizeOf23 w, Try.sizeOf4 w, Try.sizeOf34 w, Try.sizeOf4 w, Try.sizeOf3 w, Try.sizeOf4 w, Try.sizeOf35 w]
structure S_api_Request where
  f_HasPrivate : Bool
  f_Private : (Vector Int 32)
  f_HasPort : Bool
  f_Port : Int
  f_HasMark : Bool
  f_Mark : Int
  f_Replace : Bool
  f_Peers : List S_api_PeerChange
  deriving DecidableEq, Inhabited
abbrev G_api_Request := (Option Addr × Nat)
def c_api_Request : Cd (G_api_Request × S_api_Request) := ⟨39, fun z => Cd.cs cBool z.2.f_HasPrivate ++ (Cd.cs (cVec (cInt .u8) 32 (by decide)) z.2.f_Private ++ (Cd.cs cBool z.2.f_HasPort ++ (Cd.cs (cInt .i64) z.2.f_Port ++ (Cd.cs cBool z.2.f_HasMark ++ (Cd.cs (cInt .u32) z.2.f_Mark ++ (Cd.cs cBool z.2.f_Replace ++ (Cd.cs cHd ⟨z.1.1, List.length z.2.f_Peers, z.1.2⟩ ++ []))))))), fun x => by simp only [List.length_append, Cd.len, List.length_nil] <;> rfl, fun x v hv => by
  simp only [List.mem_append, List.not_mem_nil, or_false] at hv
  rcases hv with hv | hv | hv | hv | hv | hv | hv | hv
  all_goals exact Cd.one _ _ _ hv, by decide⟩
def ok_api_Request (x : S_api_Request) : Prop := (fun _ : Bool => True) x.f_HasPrivate ∧ (fun v : (Vector Int 32) => ∀ x ∈ v.toList, (fun n : Int => (Lit.int .u8 n).wf = true) x) x.f_Private ∧ (fun _ : Bool => True) x.f_HasPort ∧ (fun n : Int => (Lit.int .i64 n).wf = true) x.f_Port ∧ (fun _ : Bool => True) x.f_HasMark ∧ (fun n : Int => (Lit.int .u32 n).wf = true) x.f_Mark ∧ (fun _ : Bool => True) x.f_Replace ∧ (fun l : List S_api_PeerChange => ∀ x ∈ l, ok_api_PeerChange x) x.f_Peers
def N_api_Request (w : World) (z : G_api_Request × S_api_Request) : Prop := NR_api_PeerChange w z.1.1 z.1.2 z.2.f_Peers
theorem N_api_Request.below {w w' : World} {z : G_api_Request × S_api_Request} (h : N_api_Request w z) (hb : Below w.heap.size w w') : N_api_Request w' z := NR_api_PeerChange.below h hb
abbrev NR_api_Request (w : World) (p : Option Addr) (cap : Nat) (xs : List S_api_Request) : Prop := NRow c_api_Request N_api_Request w p cap xs
theorem NR_api_Request.below {w w' : World} {p : Option Addr} {cap : Nat} {xs : List S_api_Request} (h : NR_api_Request w p cap xs) (hb : Below w.heap.size w w') : NR_api_Request w' p cap xs := NRow.below h hb fun z hz => N_api_Request.below hz hb
theorem c_api_Request_f_HasPrivate (g : G_api_Request) (x : S_api_Request) : Lens (c_api_Request.cs (g, x)) 0 cBool x.f_HasPrivate (fun z => c_api_Request.cs (g, { x with f_HasPrivate := z })) :=
  ⟨[], Cd.cs (cVec (cInt .u8) 32 (by decide)) x.f_Private ++ (Cd.cs cBool x.f_HasPort ++ (Cd.cs (cInt .i64) x.f_Port ++ (Cd.cs cBool x.f_HasMark ++ (Cd.cs (cInt .u32) x.f_Mark ++ (Cd.cs cBool x.f_Replace ++ (Cd.cs cHd ⟨g.1, List.length x.f_Peers, g.2⟩ ++ [])))))), by simp [c_api_Request], by simp only [List.length_append, Cd.len, List.length_nil] <;> rfl, fun z => by simp [c_api_Request]⟩
theorem c_api_Request_f_Private (g : G_api_Request) (x : S_api_Request) : Lens (c_api_Request.cs (g, x)) 1 (cVec (cInt .u8) 32 (by decide)) x.f_Private (fun z => c_api_Request.cs (g, { x with f_Private := z })) :=
  ⟨Cd.cs cBool x.f_HasPrivate ++ [], Cd.cs cBool x.f_HasPort ++ (Cd.cs (cInt .i64) x.f_Port ++ (Cd.cs cBool x.f_HasMark ++ (Cd.cs (cInt .u32) x.f_Mark ++ (Cd.cs cBool x.f_Replace ++ (Cd.cs cHd ⟨g.1, List.length x.f_Peers, g.2⟩ ++ []))))), by simp [c_api_Request], by simp only [List.length_append, Cd.len, List.length_nil] <;> rfl, fun z => by simp [c_api_Request]⟩
theorem c_api_Request_f_HasPort (g : G_api_Request) (x : S_api_Request) : Lens (c_api_Request.cs (g, x)) 33 cBool x.f_HasPort (fun z => c_api_Request.cs (g, { x with f_HasPort := z })) :=
  ⟨Cd.cs cBool x.f_HasPrivate ++ (Cd.cs (cVec (cInt .u8) 32 (by decide)) x.f_Private ++ []), Cd.cs (cInt .i64) x.f_Port ++ (Cd.cs cBool x.f_HasMark ++ (Cd.cs (cInt .u32) x.f_Mark ++ (Cd.cs cBool x.f_Replace ++ (Cd.cs cHd ⟨g.1, List.length x.f_Peers, g.2⟩ ++ [])))), by simp [c_api_Request], by simp only [List.length_append, Cd.len, List.length_nil] <;> rfl, fun z => by simp [c_api_Request]⟩
theorem c_api_Request_f_Port (g : G_api_Request) (x : S_api_Request) : Lens (c_api_Request.cs (g, x)) 34 (cInt .i64) x.f_Port (fun z => c_api_Request.cs (g, { x with f_Port := z })) :=
  ⟨Cd.cs cBool x.f_HasPrivate ++ (Cd.cs (cVec (cInt .u8) 32 (by decide)) x.f_Private ++ (Cd.cs cBool x.f_HasPort ++ [])), Cd.cs cBool x.f_HasMark ++ (Cd.cs (cInt .u32) x.f_Mark ++ (Cd.cs cBool x.f_Replace ++ (Cd.cs cHd ⟨g.1, List.length x.f_Peers, g.2⟩ ++ []))), by simp [c_api_Request], by simp only [List.length_append, Cd.len, List.length_nil] <;> rfl, fun z => by simp [c_api_Request]⟩
theorem c_api_Request_f_HasMark (g : G_api_Request) (x : S_api_Request) : Lens (c_api_Request.cs (g, x)) 35 cBool x.f_HasMark (fun z => c_api_Request.cs (g, { x with f_HasMark := z })) :=
  ⟨Cd.cs cBool x.f_HasPrivate ++ (Cd.cs (cVec (cInt .u8) 32 (by decide)) x.f_Private ++ (Cd.cs cBool x.f_HasPort ++ (Cd.cs (cInt .i64) x.f_Port ++ []))), Cd.cs (cInt .u32) x.f_Mark ++ (Cd.cs cBool x.f_Replace ++ (Cd.cs cHd ⟨g.1, List.length x.f_Peers, g.2⟩ ++ [])), by simp [c_api_Request], by simp only [List.length_append, Cd.len, List.length_nil] <;> rfl, fun z => by simp [c_api_Request]⟩
theorem c_api_Request_f_Mark (g : G_api_Request) (x : S_api_Request) : Lens (c_api_Request.cs (g, x)) 36 (cInt .u32) x.f_Mark (fun z => c_api_Request.cs (g, { x with f_Mark := z })) :=
  ⟨Cd.cs cBool x.f_HasPrivate ++ (Cd.cs (cVec (cInt .u8) 32 (by decide)) x.f_Private ++ (Cd.cs cBool x.f_HasPort ++ (Cd.cs (cInt .i64) x.f_Port ++ (Cd.cs cBool x.f_HasMark ++ [])))), Cd.cs cBool x.f_Replace ++ (Cd.cs cHd ⟨g.1, List.length x.f_Peers, g.2⟩ ++ []), by simp [c_api_Request], by simp only [List.length_append, Cd.len, List.length_nil] <;> rfl, fun z => by simp [c_api_Request]⟩
theorem c_api_Request_f_Replace (g : G_api_Request) (x : S_api_Request) : Lens (c_api_Request.cs (g, x)) 37 cBool x.f_Replace (fun z => c_api_Request.cs (g, { x with f_Replace := z })) :=
  ⟨Cd.cs cBool x.f_HasPrivate ++ (Cd.cs (cVec (cInt .u8) 32 (by decide)) x.f_Private ++ (Cd.cs cBool x.f_HasPort ++ (Cd.cs (cInt .i64) x.f_Port ++ (Cd.cs cBool x.f_HasMark ++ (Cd.cs (cInt .u32) x.f_Mark ++ []))))), Cd.cs cHd ⟨g.1, List.length x.f_Peers, g.2⟩ ++ [], by simp [c_api_Request], by simp only [List.length_append, Cd.len, List.length_nil] <;> rfl, fun z => by simp [c_api_Request]⟩
theorem c_api_Request_f_Peers (g : G_api_Request) (x : S_api_Request) : Lens (c_api_Request.cs (g, x)) 38 cHd ⟨g.1, List.length x.f_Peers, g.2⟩ (fun h => Cd.cs cBool x.f_HasPrivate ++ (Cd.cs (cVec (cInt .u8) 32 (by decide)) x.f_Private ++ (Cd.cs cBool x.f_HasPort ++ (Cd.cs (cInt .i64) x.f_Port ++ (Cd.cs cBool x.f_HasMark ++ (Cd.cs (cInt .u32) x.f_Mark ++ (Cd.cs cBool x.f_Replace ++ (Cd.cs cHd h ++ [])))))))) :=
  ⟨Cd.cs cBool x.f_HasPrivate ++ (Cd.cs (cVec (cInt .u8) 32 (by decide)) x.f_Private ++ (Cd.cs cBool x.f_HasPort ++ (Cd.cs (cInt .i64) x.f_Port ++ (Cd.cs cBool x.f_HasMark ++ (Cd.cs (cInt .u32) x.f_Mark ++ (Cd.cs cBool x.f_Replace ++ [])))))), [], by simp [c_api_Request], by simp only [List.length_append, Cd.len, List.length_nil] <;> rfl, fun z => by simp⟩
theorem opn_api_Request_27 : OpnW Try.prog 27 c_api_Request (fun w z => ok_api_Request z.2 ∧ N_api_Request w z) := fun enc w base spare held fuel cs d ps hd => by
  cases fuel with
  | zero => exact (opn_zero hd).elim
  | succ fuel =>
    obtain ⟨hlen, hf⟩ := opn_fields Try.underlying27 hd
    rw [show Try.prog.cellsOf 27 = 39 from by kernel_rfl] at hlen
    obtain ⟨d0, p0, h0⟩ : ∃ d' p', DataW.trod enc Try.prog w base spare held fuel 4 ((cs.drop 0).take (Try.prog.cellsOf 4)) = some (d', p') := hf 0 _ rfl
    obtain ⟨x0, e0, o0⟩ := (opn_bool Try.underlying4) enc w base spare held fuel _ _ _ h0
    rw [show Try.prog.cellsOf 4 = 1 from by kernel_rfl] at e0
    obtain ⟨d1, p1, h1⟩ : ∃ d' p', DataW.trod enc Try.prog w base spare held fuel 23 ((cs.drop 1).take (Try.prog.cellsOf 23)) = some (d', p') := hf 1 _ rfl
    obtain ⟨x1, e1, o1⟩ := (opn_vec Try.underlying23 (by kernel_rfl) (by kernel_rfl) (opn_int Try.underlying5)) enc w base spare held fuel _ _ _ h1
    rw [show Try.prog.cellsOf 23 = 32 from by kernel_rfl] at e1
    obtain ⟨d2, p2, h2⟩ : ∃ d' p', DataW.trod enc Try.prog w base spare held fuel 4 ((cs.drop 33).take (Try.prog.cellsOf 4)) = some (d', p') := hf 2 _ rfl
    obtain ⟨x2, e2, o2⟩ := (opn_bool Try.underlying4) enc w base spare held fuel _ _ _ h2
    rw [show Try.prog.cellsOf 4 = 1 from by kernel_rfl] at e2
    obtain ⟨d3, p3, h3⟩ : ∃ d' p', DataW.trod enc Try.prog w base spare held fuel 3 ((cs.drop 34).take (Try.prog.cellsOf 3)) = some (d', p') := hf 3 _ rfl
    obtain ⟨x3, e3, o3⟩ := (opn_int Try.underlying3) enc w base spare held fuel _ _ _ h3
    rw [show Try.prog.cellsOf 3 = 1 from by kernel_rfl] at e3
    obtain ⟨d4, p4, h4⟩ : ∃ d' p', DataW.trod enc Try.prog w base spare held fuel 4 ((cs.drop 35).take (Try.prog.cellsOf 4)) = some (d', p') := hf 4 _ rfl
    obtain ⟨x4, e4, o4⟩ := (opn_bool Try.underlying4) enc w base spare held fuel _ _ _ h4
    rw [show Try.prog.cellsOf 4 = 1 from by kernel_rfl] at e4
    obtain ⟨d5, p5, h5⟩ : ∃ d' p', DataW.trod enc Try.prog w base spare held fuel 24 ((cs.drop 36).take (Try.prog.cellsOf 24)) = some (d', p') := hf 5 _ rfl
    obtain ⟨x5, e5, o5⟩ := (opn_int Try.underlying24) enc w base spare held fuel _ _ _ h5
    rw [show Try.prog.cellsOf 24 = 1 from by kernel_rfl] at e5
    obtain ⟨d6, p6, h6⟩ : ∃ d' p', DataW.trod enc Try.prog w base spare held fuel 4 ((cs.drop 37).take (Try.prog.cellsOf 4)) = some (d', p') := hf 6 _ rfl
    obtain ⟨x6, e6, o6⟩ := (opn_bool Try.underlying4) enc w base spare held fuel _ _ _ h6
    rw [show Try.prog.cellsOf 4 = 1 from by kernel_rfl] at e6
    obtain ⟨d7, p7, h7⟩ : ∃ d' p', DataW.trod enc Try.prog w base spare held fuel 25 ((cs.drop 38).take (Try.prog.cellsOf 25)) = some (d', p') := hf 7 _ rfl
    obtain ⟨a7, k7, x7, e7, r7, o7⟩ := row_trod (c := c_api_PeerChange) Try.underlying25 (by kernel_rfl) (opn_api_PeerChange_37) h7
    rw [show Try.prog.cellsOf 25 = 1 from by kernel_rfl] at e7
    refine ⟨((a7, k7), ⟨x0, x1, x2, x3, x4, x5, x6, x7.map Prod.snd⟩), ?_, ⟨o0, o1, o2, o3, o4, o5, o6, (fun y hy => by obtain ⟨z, hz, rfl⟩ := List.mem_map.1 hy; exact (o7 z hz).1)⟩, ⟨x7, rfl, r7, fun z hz => (o7 z hz).2⟩⟩
    have hz : cs = Cd.cs cBool x0 ++ (Cd.cs (cVec (cInt .u8) 32 (by decide)) x1 ++ (Cd.cs cBool x2 ++ (Cd.cs (cInt .i64) x3 ++ (Cd.cs cBool x4 ++ (Cd.cs (cInt .u32) x5 ++ (Cd.cs cBool x6 ++ ([Value.slice a7 x7.length k7] ++ []))))))) := by
      rw [← e0, ← e1, ← e2, ← e3, ← e4, ← e5, ← e6, ← e7]
      exact (split_cons (l := cs) (o := 0) (k := 1) (split_cons (l := cs) (o := 1) (k := 32) (split_cons (l := cs) (o := 33) (k := 1) (split_cons (l := cs) (o := 34) (k := 1) (split_cons (l := cs) (o := 35) (k := 1) (split_cons (l := cs) (o := 36) (k := 1) (split_cons (l := cs) (o := 37) (k := 1) (split_cons (l := cs) (o := 38) (k := 1) (split_nil (l := cs) (o := 39) (by omega))))))))))
    rw [hz]
    simp [c_api_Request, cHd]
theorem places_api_Request_27 : ∀ w, ((#[{ name := "HasPrivate", type := 4, offset := 0, embedded := false, tag := "", pkgPath := "", byteOffset := 0 }, { name := "Private", type := 23, offset := 1, embedded := false, tag := "", pkgPath := "", byteOffset := 1 }, { name := "HasPort", type := 4, offset := 33, embedded := false, tag := "", pkgPath := "", byteOffset := 33 }, { name := "Port", type := 3, offset := 34, embedded := false, tag := "", pkgPath := "", byteOffset := 40 }, { name := "HasMark", type := 4, offset := 35, embedded := false, tag := "", pkgPath := "", byteOffset := 48 }, { name := "Mark", type := 24, offset := 36, embedded := false, tag := "", pkgPath := "", byteOffset := 52 }, { name := "Replace", type := 4, offset := 37, embedded := false, tag := "", pkgPath := "", byteOffset := 56 }, { name := "Peers", type := 25, offset := 38, embedded := false, tag := "", pkgPath := "", byteOffset := 64 }] : Array Field).mapM fun f => (do pure (f.offset, ← sizeOf f.type) : Sem (Nat × Nat))).run Try.prog w = .ok #[(0, 1), (1, 32), (33, 1), (34, 1), (35, 1), (36, 1), (37, 1), (38, 1)] w := fun w => by
  simp [Try.sizeOf4 w, Try.sizeOf23 w, Try.sizeOf4 w, Try.sizeOf3 w, Try.sizeOf4 w, Try.sizeOf24 w, Try.sizeOf4 w, Try.sizeOf25 w]
structure S_crawlwaylaw25_Deed where
  f_Kind : Int
  f_P : S_api_Prefix
  f_Own : Int
  deriving DecidableEq, Inhabited
def c_crawlwaylaw25_Deed : Cd S_crawlwaylaw25_Deed := ⟨20, fun x => Cd.cs (cInt .i64) x.f_Kind ++ (Cd.cs c_api_Prefix x.f_P ++ (Cd.cs (cInt .i64) x.f_Own ++ [])), fun x => by simp only [List.length_append, Cd.len, List.length_nil] <;> rfl, fun x v hv => by
  simp only [List.mem_append, List.not_mem_nil, or_false] at hv
  rcases hv with hv | hv | hv
  all_goals exact Cd.one _ _ _ hv, by decide⟩
def ok_crawlwaylaw25_Deed (x : S_crawlwaylaw25_Deed) : Prop := (fun n : Int => (Lit.int .i64 n).wf = true) x.f_Kind ∧ ok_api_Prefix x.f_P ∧ (fun n : Int => (Lit.int .i64 n).wf = true) x.f_Own
theorem c_crawlwaylaw25_Deed_f_Kind (x : S_crawlwaylaw25_Deed) : Lens (c_crawlwaylaw25_Deed.cs x) 0 (cInt .i64) x.f_Kind (fun z => c_crawlwaylaw25_Deed.cs { x with f_Kind := z }) :=
  ⟨[], Cd.cs c_api_Prefix x.f_P ++ (Cd.cs (cInt .i64) x.f_Own ++ []), by simp [c_crawlwaylaw25_Deed], by simp only [List.length_append, Cd.len, List.length_nil] <;> rfl, fun z => by simp [c_crawlwaylaw25_Deed]⟩
theorem c_crawlwaylaw25_Deed_f_P (x : S_crawlwaylaw25_Deed) : Lens (c_crawlwaylaw25_Deed.cs x) 1 c_api_Prefix x.f_P (fun z => c_crawlwaylaw25_Deed.cs { x with f_P := z }) :=
  ⟨Cd.cs (cInt .i64) x.f_Kind ++ [], Cd.cs (cInt .i64) x.f_Own ++ [], by simp [c_crawlwaylaw25_Deed], by simp only [List.length_append, Cd.len, List.length_nil] <;> rfl, fun z => by simp [c_crawlwaylaw25_Deed]⟩
theorem c_crawlwaylaw25_Deed_f_Own (x : S_crawlwaylaw25_Deed) : Lens (c_crawlwaylaw25_Deed.cs x) 19 (cInt .i64) x.f_Own (fun z => c_crawlwaylaw25_Deed.cs { x with f_Own := z }) :=
  ⟨Cd.cs (cInt .i64) x.f_Kind ++ (Cd.cs c_api_Prefix x.f_P ++ []), [], by simp [c_crawlwaylaw25_Deed], by simp only [List.length_append, Cd.len, List.length_nil] <;> rfl, fun z => by simp [c_crawlwaylaw25_Deed]⟩
theorem eq_crawlwaylaw25_Deed_48 : Eqs Try.prog 48 c_crawlwaylaw25_Deed true 4 := fun d hd x y w => by
  obtain ⟨d, rfl⟩ : ∃ e, d = e + 1 := ⟨d - 1, by omega⟩
  refine (run_eq_struct (xs := (c_crawlwaylaw25_Deed.cs x).toArray) (ys := (c_crawlwaylaw25_Deed.cs y).toArray) Try.underlying48 Try.stoodInHeld48).trans ?_
  refine Eq.trans (eqf_cons (c_crawlwaylaw25_Deed_f_Kind x) (c_crawlwaylaw25_Deed_f_Kind y) (by rfl) (by rfl) Try.isAgg3 Try.sizeOf3 (.inr rfl) (eqs_int Try.underlying3) (by omega) (eqf_cons (c_crawlwaylaw25_Deed_f_P x) (c_crawlwaylaw25_Deed_f_P y) (by rfl) (by rfl) Try.isAgg46 Try.sizeOf46 (.inl rfl) (eq_api_Prefix_46) (by omega) (eqf_cons (c_crawlwaylaw25_Deed_f_Own x) (c_crawlwaylaw25_Deed_f_Own y) (by rfl) (by rfl) Try.isAgg3 Try.sizeOf3 (.inr rfl) (eqs_int Try.underlying3) (by omega) eqf_nil))) ?_
  congr 1
  cases x; cases y
  rw [Bool.eq_iff_iff]; simp
theorem opn_crawlwaylaw25_Deed_48 : Opn Try.prog 48 c_crawlwaylaw25_Deed ok_crawlwaylaw25_Deed := fun enc w base spare held fuel cs d ps hd => by
  cases fuel with
  | zero => exact (opn_zero hd).elim
  | succ fuel =>
    obtain ⟨hlen, hf⟩ := opn_fields Try.underlying48 hd
    rw [show Try.prog.cellsOf 48 = 20 from by kernel_rfl] at hlen
    obtain ⟨d0, p0, h0⟩ : ∃ d' p', DataW.trod enc Try.prog w base spare held fuel 3 ((cs.drop 0).take (Try.prog.cellsOf 3)) = some (d', p') := hf 0 _ rfl
    obtain ⟨x0, e0, o0⟩ := (opn_int Try.underlying3) enc w base spare held fuel _ _ _ h0
    rw [show Try.prog.cellsOf 3 = 1 from by kernel_rfl] at e0
    obtain ⟨d1, p1, h1⟩ : ∃ d' p', DataW.trod enc Try.prog w base spare held fuel 46 ((cs.drop 1).take (Try.prog.cellsOf 46)) = some (d', p') := hf 1 _ rfl
    obtain ⟨x1, e1, o1⟩ := (opn_api_Prefix_46) enc w base spare held fuel _ _ _ h1
    rw [show Try.prog.cellsOf 46 = 18 from by kernel_rfl] at e1
    obtain ⟨d2, p2, h2⟩ : ∃ d' p', DataW.trod enc Try.prog w base spare held fuel 3 ((cs.drop 19).take (Try.prog.cellsOf 3)) = some (d', p') := hf 2 _ rfl
    obtain ⟨x2, e2, o2⟩ := (opn_int Try.underlying3) enc w base spare held fuel _ _ _ h2
    rw [show Try.prog.cellsOf 3 = 1 from by kernel_rfl] at e2
    refine ⟨⟨x0, x1, x2⟩, ?_, o0, o1, o2⟩
    show cs = Cd.cs (cInt .i64) x0 ++ (Cd.cs c_api_Prefix x1 ++ (Cd.cs (cInt .i64) x2 ++ []))
    rw [← e0, ← e1, ← e2]
    exact (split_cons (l := cs) (o := 0) (k := 1) (split_cons (l := cs) (o := 1) (k := 18) (split_cons (l := cs) (o := 19) (k := 1) (split_nil (l := cs) (o := 20) (by omega)))))
theorem places_crawlwaylaw25_Deed_48 : ∀ w, ((#[{ name := "Kind", type := 3, offset := 0, embedded := false, tag := "", pkgPath := "", byteOffset := 0 }, { name := "P", type := 46, offset := 1, embedded := false, tag := "", pkgPath := "", byteOffset := 8 }, { name := "Own", type := 3, offset := 19, embedded := false, tag := "", pkgPath := "", byteOffset := 40 }] : Array Field).mapM fun f => (do pure (f.offset, ← sizeOf f.type) : Sem (Nat × Nat))).run Try.prog w = .ok #[(0, 1), (1, 18), (19, 1)] w := fun w => by
  simp [Try.sizeOf3 w, Try.sizeOf46 w, Try.sizeOf3 w]
structure S_api_Entry where
  f_P : S_api_Prefix
  f_Owner : Int
  deriving DecidableEq, Inhabited
def c_api_Entry : Cd S_api_Entry := ⟨19, fun x => Cd.cs c_api_Prefix x.f_P ++ (Cd.cs (cInt .i64) x.f_Owner ++ []), fun x => by simp only [List.length_append, Cd.len, List.length_nil] <;> rfl, fun x v hv => by
  simp only [List.mem_append, List.not_mem_nil, or_false] at hv
  rcases hv with hv | hv
  all_goals exact Cd.one _ _ _ hv, by decide⟩
def ok_api_Entry (x : S_api_Entry) : Prop := ok_api_Prefix x.f_P ∧ (fun n : Int => (Lit.int .i64 n).wf = true) x.f_Owner
theorem c_api_Entry_f_P (x : S_api_Entry) : Lens (c_api_Entry.cs x) 0 c_api_Prefix x.f_P (fun z => c_api_Entry.cs { x with f_P := z }) :=
  ⟨[], Cd.cs (cInt .i64) x.f_Owner ++ [], by simp [c_api_Entry], by simp only [List.length_append, Cd.len, List.length_nil] <;> rfl, fun z => by simp [c_api_Entry]⟩
theorem c_api_Entry_f_Owner (x : S_api_Entry) : Lens (c_api_Entry.cs x) 18 (cInt .i64) x.f_Owner (fun z => c_api_Entry.cs { x with f_Owner := z }) :=
  ⟨Cd.cs c_api_Prefix x.f_P ++ [], [], by simp [c_api_Entry], by simp only [List.length_append, Cd.len, List.length_nil] <;> rfl, fun z => by simp [c_api_Entry]⟩
theorem eq_api_Entry_52 : Eqs Try.prog 52 c_api_Entry true 4 := fun d hd x y w => by
  obtain ⟨d, rfl⟩ : ∃ e, d = e + 1 := ⟨d - 1, by omega⟩
  refine (run_eq_struct (xs := (c_api_Entry.cs x).toArray) (ys := (c_api_Entry.cs y).toArray) Try.underlying52 Try.stoodInHeld52).trans ?_
  refine Eq.trans (eqf_cons (c_api_Entry_f_P x) (c_api_Entry_f_P y) (by rfl) (by rfl) Try.isAgg46 Try.sizeOf46 (.inl rfl) (eq_api_Prefix_46) (by omega) (eqf_cons (c_api_Entry_f_Owner x) (c_api_Entry_f_Owner y) (by rfl) (by rfl) Try.isAgg3 Try.sizeOf3 (.inr rfl) (eqs_int Try.underlying3) (by omega) eqf_nil)) ?_
  congr 1
  cases x; cases y
  rw [Bool.eq_iff_iff]; simp
theorem opn_api_Entry_52 : Opn Try.prog 52 c_api_Entry ok_api_Entry := fun enc w base spare held fuel cs d ps hd => by
  cases fuel with
  | zero => exact (opn_zero hd).elim
  | succ fuel =>
    obtain ⟨hlen, hf⟩ := opn_fields Try.underlying52 hd
    rw [show Try.prog.cellsOf 52 = 19 from by kernel_rfl] at hlen
    obtain ⟨d0, p0, h0⟩ : ∃ d' p', DataW.trod enc Try.prog w base spare held fuel 46 ((cs.drop 0).take (Try.prog.cellsOf 46)) = some (d', p') := hf 0 _ rfl
    obtain ⟨x0, e0, o0⟩ := (opn_api_Prefix_46) enc w base spare held fuel _ _ _ h0
    rw [show Try.prog.cellsOf 46 = 18 from by kernel_rfl] at e0
    obtain ⟨d1, p1, h1⟩ : ∃ d' p', DataW.trod enc Try.prog w base spare held fuel 3 ((cs.drop 18).take (Try.prog.cellsOf 3)) = some (d', p') := hf 1 _ rfl
    obtain ⟨x1, e1, o1⟩ := (opn_int Try.underlying3) enc w base spare held fuel _ _ _ h1
    rw [show Try.prog.cellsOf 3 = 1 from by kernel_rfl] at e1
    refine ⟨⟨x0, x1⟩, ?_, o0, o1⟩
    show cs = Cd.cs c_api_Prefix x0 ++ (Cd.cs (cInt .i64) x1 ++ [])
    rw [← e0, ← e1]
    exact (split_cons (l := cs) (o := 0) (k := 18) (split_cons (l := cs) (o := 18) (k := 1) (split_nil (l := cs) (o := 19) (by omega))))
theorem places_api_Entry_52 : ∀ w, ((#[{ name := "P", type := 46, offset := 0, embedded := false, tag := "", pkgPath := "", byteOffset := 0 }, { name := "Owner", type := 3, offset := 18, embedded := false, tag := "", pkgPath := "", byteOffset := 32 }] : Array Field).mapM fun f => (do pure (f.offset, ← sizeOf f.type) : Sem (Nat × Nat))).run Try.prog w = .ok #[(0, 18), (18, 1)] w := fun w => by
  simp [Try.sizeOf46 w, Try.sizeOf3 w]
theorem eq_crawlwaylaw25_Deed_72 : Eqs Try.prog 72 c_crawlwaylaw25_Deed true 4 := fun d hd x y w => by
  obtain ⟨d, rfl⟩ : ∃ e, d = e + 1 := ⟨d - 1, by omega⟩
  refine (run_eq_struct (xs := (c_crawlwaylaw25_Deed.cs x).toArray) (ys := (c_crawlwaylaw25_Deed.cs y).toArray) Try.underlying72 Try.stoodInHeld72).trans ?_
  refine Eq.trans (eqf_cons (c_crawlwaylaw25_Deed_f_Kind x) (c_crawlwaylaw25_Deed_f_Kind y) (by rfl) (by rfl) Try.isAgg3 Try.sizeOf3 (.inr rfl) (eqs_int Try.underlying3) (by omega) (eqf_cons (c_crawlwaylaw25_Deed_f_P x) (c_crawlwaylaw25_Deed_f_P y) (by rfl) (by rfl) Try.isAgg46 Try.sizeOf46 (.inl rfl) (eq_api_Prefix_46) (by omega) (eqf_cons (c_crawlwaylaw25_Deed_f_Own x) (c_crawlwaylaw25_Deed_f_Own y) (by rfl) (by rfl) Try.isAgg3 Try.sizeOf3 (.inr rfl) (eqs_int Try.underlying3) (by omega) eqf_nil))) ?_
  congr 1
  cases x; cases y
  rw [Bool.eq_iff_iff]; simp
theorem opn_crawlwaylaw25_Deed_72 : Opn Try.prog 72 c_crawlwaylaw25_Deed ok_crawlwaylaw25_Deed := fun enc w base spare held fuel cs d ps hd => by
  cases fuel with
  | zero => exact (opn_zero hd).elim
  | succ fuel =>
    obtain ⟨hlen, hf⟩ := opn_fields Try.underlying72 hd
    rw [show Try.prog.cellsOf 72 = 20 from by kernel_rfl] at hlen
    obtain ⟨d0, p0, h0⟩ : ∃ d' p', DataW.trod enc Try.prog w base spare held fuel 3 ((cs.drop 0).take (Try.prog.cellsOf 3)) = some (d', p') := hf 0 _ rfl
    obtain ⟨x0, e0, o0⟩ := (opn_int Try.underlying3) enc w base spare held fuel _ _ _ h0
    rw [show Try.prog.cellsOf 3 = 1 from by kernel_rfl] at e0
    obtain ⟨d1, p1, h1⟩ : ∃ d' p', DataW.trod enc Try.prog w base spare held fuel 46 ((cs.drop 1).take (Try.prog.cellsOf 46)) = some (d', p') := hf 1 _ rfl
    obtain ⟨x1, e1, o1⟩ := (opn_api_Prefix_46) enc w base spare held fuel _ _ _ h1
    rw [show Try.prog.cellsOf 46 = 18 from by kernel_rfl] at e1
    obtain ⟨d2, p2, h2⟩ : ∃ d' p', DataW.trod enc Try.prog w base spare held fuel 3 ((cs.drop 19).take (Try.prog.cellsOf 3)) = some (d', p') := hf 2 _ rfl
    obtain ⟨x2, e2, o2⟩ := (opn_int Try.underlying3) enc w base spare held fuel _ _ _ h2
    rw [show Try.prog.cellsOf 3 = 1 from by kernel_rfl] at e2
    refine ⟨⟨x0, x1, x2⟩, ?_, o0, o1, o2⟩
    show cs = Cd.cs (cInt .i64) x0 ++ (Cd.cs c_api_Prefix x1 ++ (Cd.cs (cInt .i64) x2 ++ []))
    rw [← e0, ← e1, ← e2]
    exact (split_cons (l := cs) (o := 0) (k := 1) (split_cons (l := cs) (o := 1) (k := 18) (split_cons (l := cs) (o := 19) (k := 1) (split_nil (l := cs) (o := 20) (by omega)))))
theorem places_crawlwaylaw25_Deed_72 : ∀ w, ((#[{ name := "Kind", type := 3, offset := 0, embedded := false, tag := "", pkgPath := "", byteOffset := 0 }, { name := "P", type := 46, offset := 1, embedded := false, tag := "", pkgPath := "", byteOffset := 8 }, { name := "Own", type := 3, offset := 19, embedded := false, tag := "", pkgPath := "", byteOffset := 40 }] : Array Field).mapM fun f => (do pure (f.offset, ← sizeOf f.type) : Sem (Nat × Nat))).run Try.prog w = .ok #[(0, 1), (1, 18), (19, 1)] w := fun w => by
  simp [Try.sizeOf3 w, Try.sizeOf46 w, Try.sizeOf3 w]
end Go.Proofs.Ythccncpephpdjaa
