/- The types of the program as Lean types, how they lie in cells, and what == says of them; by a program of this project (gen.py). -/
import Derived.Test.YthccncpephpdjaaHp
import Derived.Test.YthccncpephpdjaaProg
set_option linter.unusedVariables false
set_option linter.unusedSimpArgs false
namespace Go.Proofs.Ythccncpephpdjaa
open E Go.RowKit
theorem infoT4_is : (Try.prog.info? 4).isSome = true := by kernel_rfl
noncomputable def infoT4_v : TypeInfo := (Try.prog.info? 4).get infoT4_is
theorem infoT4 : Try.prog.info? 4 = some infoT4_v := (Option.some_get _).symm
theorem infoT5_is : (Try.prog.info? 5).isSome = true := by kernel_rfl
noncomputable def infoT5_v : TypeInfo := (Try.prog.info? 5).get infoT5_is
theorem infoT5 : Try.prog.info? 5 = some infoT5_v := (Option.some_get _).symm
theorem infoT100_is : (Try.prog.info? 100).isSome = true := by kernel_rfl
noncomputable def infoT100_v : TypeInfo := (Try.prog.info? 100).get infoT100_is
theorem infoT100 : Try.prog.info? 100 = some infoT100_v := (Option.some_get _).symm
structure S_api_Request where
  f_HasPrivate : Bool
  f_Private : (Vector Int 32)
  f_HasPort : Bool
  f_Port : Int
  f_HasMark : Bool
  f_Mark : Int
  f_Replace : Bool
  f_Peers : Hd
  deriving DecidableEq, Inhabited
def c_api_Request : Cd S_api_Request := ⟨39, fun x => Cd.cs cBool x.f_HasPrivate ++ (Cd.cs (cVec (cInt .u8) 32 (by decide)) x.f_Private ++ (Cd.cs cBool x.f_HasPort ++ (Cd.cs (cInt .i64) x.f_Port ++ (Cd.cs cBool x.f_HasMark ++ (Cd.cs (cInt .u32) x.f_Mark ++ (Cd.cs cBool x.f_Replace ++ (Cd.cs cHd x.f_Peers ++ []))))))), fun x => by simp only [List.length_append, Cd.len, List.length_nil] <;> rfl, fun x v hv => by
  simp only [List.mem_append, List.not_mem_nil, or_false] at hv
  rcases hv with hv | hv | hv | hv | hv | hv | hv | hv
  all_goals exact Cd.one _ _ _ hv, by decide⟩
def ok_api_Request (x : S_api_Request) : Prop := (fun _ : Bool => True) x.f_HasPrivate ∧ (fun v : (Vector Int 32) => ∀ x ∈ v.toList, (fun n : Int => (Lit.int .u8 n).wf = true) x) x.f_Private ∧ (fun _ : Bool => True) x.f_HasPort ∧ (fun n : Int => (Lit.int .i64 n).wf = true) x.f_Port ∧ (fun _ : Bool => True) x.f_HasMark ∧ (fun n : Int => (Lit.int .u32 n).wf = true) x.f_Mark ∧ (fun _ : Bool => True) x.f_Replace ∧ (fun _ : Hd => True) x.f_Peers
theorem c_api_Request_f_HasPrivate (x : S_api_Request) : Lens (c_api_Request.cs x) 0 cBool x.f_HasPrivate (fun z => c_api_Request.cs { x with f_HasPrivate := z }) :=
  ⟨[], Cd.cs (cVec (cInt .u8) 32 (by decide)) x.f_Private ++ (Cd.cs cBool x.f_HasPort ++ (Cd.cs (cInt .i64) x.f_Port ++ (Cd.cs cBool x.f_HasMark ++ (Cd.cs (cInt .u32) x.f_Mark ++ (Cd.cs cBool x.f_Replace ++ (Cd.cs cHd x.f_Peers ++ [])))))), by simp [c_api_Request], by simp only [List.length_append, Cd.len, List.length_nil] <;> rfl, fun z => by simp [c_api_Request]⟩
theorem c_api_Request_f_Private (x : S_api_Request) : Lens (c_api_Request.cs x) 1 (cVec (cInt .u8) 32 (by decide)) x.f_Private (fun z => c_api_Request.cs { x with f_Private := z }) :=
  ⟨Cd.cs cBool x.f_HasPrivate ++ [], Cd.cs cBool x.f_HasPort ++ (Cd.cs (cInt .i64) x.f_Port ++ (Cd.cs cBool x.f_HasMark ++ (Cd.cs (cInt .u32) x.f_Mark ++ (Cd.cs cBool x.f_Replace ++ (Cd.cs cHd x.f_Peers ++ []))))), by simp [c_api_Request], by simp only [List.length_append, Cd.len, List.length_nil] <;> rfl, fun z => by simp [c_api_Request]⟩
theorem c_api_Request_f_HasPort (x : S_api_Request) : Lens (c_api_Request.cs x) 33 cBool x.f_HasPort (fun z => c_api_Request.cs { x with f_HasPort := z }) :=
  ⟨Cd.cs cBool x.f_HasPrivate ++ (Cd.cs (cVec (cInt .u8) 32 (by decide)) x.f_Private ++ []), Cd.cs (cInt .i64) x.f_Port ++ (Cd.cs cBool x.f_HasMark ++ (Cd.cs (cInt .u32) x.f_Mark ++ (Cd.cs cBool x.f_Replace ++ (Cd.cs cHd x.f_Peers ++ [])))), by simp [c_api_Request], by simp only [List.length_append, Cd.len, List.length_nil] <;> rfl, fun z => by simp [c_api_Request]⟩
theorem c_api_Request_f_Port (x : S_api_Request) : Lens (c_api_Request.cs x) 34 (cInt .i64) x.f_Port (fun z => c_api_Request.cs { x with f_Port := z }) :=
  ⟨Cd.cs cBool x.f_HasPrivate ++ (Cd.cs (cVec (cInt .u8) 32 (by decide)) x.f_Private ++ (Cd.cs cBool x.f_HasPort ++ [])), Cd.cs cBool x.f_HasMark ++ (Cd.cs (cInt .u32) x.f_Mark ++ (Cd.cs cBool x.f_Replace ++ (Cd.cs cHd x.f_Peers ++ []))), by simp [c_api_Request], by simp only [List.length_append, Cd.len, List.length_nil] <;> rfl, fun z => by simp [c_api_Request]⟩
theorem c_api_Request_f_HasMark (x : S_api_Request) : Lens (c_api_Request.cs x) 35 cBool x.f_HasMark (fun z => c_api_Request.cs { x with f_HasMark := z }) :=
  ⟨Cd.cs cBool x.f_HasPrivate ++ (Cd.cs (cVec (cInt .u8) 32 (by decide)) x.f_Private ++ (Cd.cs cBool x.f_HasPort ++ (Cd.cs (cInt .i64) x.f_Port ++ []))), Cd.cs (cInt .u32) x.f_Mark ++ (Cd.cs cBool x.f_Replace ++ (Cd.cs cHd x.f_Peers ++ [])), by simp [c_api_Request], by simp only [List.length_append, Cd.len, List.length_nil] <;> rfl, fun z => by simp [c_api_Request]⟩
theorem c_api_Request_f_Mark (x : S_api_Request) : Lens (c_api_Request.cs x) 36 (cInt .u32) x.f_Mark (fun z => c_api_Request.cs { x with f_Mark := z }) :=
  ⟨Cd.cs cBool x.f_HasPrivate ++ (Cd.cs (cVec (cInt .u8) 32 (by decide)) x.f_Private ++ (Cd.cs cBool x.f_HasPort ++ (Cd.cs (cInt .i64) x.f_Port ++ (Cd.cs cBool x.f_HasMark ++ [])))), Cd.cs cBool x.f_Replace ++ (Cd.cs cHd x.f_Peers ++ []), by simp [c_api_Request], by simp only [List.length_append, Cd.len, List.length_nil] <;> rfl, fun z => by simp [c_api_Request]⟩
theorem c_api_Request_f_Replace (x : S_api_Request) : Lens (c_api_Request.cs x) 37 cBool x.f_Replace (fun z => c_api_Request.cs { x with f_Replace := z }) :=
  ⟨Cd.cs cBool x.f_HasPrivate ++ (Cd.cs (cVec (cInt .u8) 32 (by decide)) x.f_Private ++ (Cd.cs cBool x.f_HasPort ++ (Cd.cs (cInt .i64) x.f_Port ++ (Cd.cs cBool x.f_HasMark ++ (Cd.cs (cInt .u32) x.f_Mark ++ []))))), Cd.cs cHd x.f_Peers ++ [], by simp [c_api_Request], by simp only [List.length_append, Cd.len, List.length_nil] <;> rfl, fun z => by simp [c_api_Request]⟩
theorem c_api_Request_f_Peers (x : S_api_Request) : Lens (c_api_Request.cs x) 38 cHd x.f_Peers (fun z => c_api_Request.cs { x with f_Peers := z }) :=
  ⟨Cd.cs cBool x.f_HasPrivate ++ (Cd.cs (cVec (cInt .u8) 32 (by decide)) x.f_Private ++ (Cd.cs cBool x.f_HasPort ++ (Cd.cs (cInt .i64) x.f_Port ++ (Cd.cs cBool x.f_HasMark ++ (Cd.cs (cInt .u32) x.f_Mark ++ (Cd.cs cBool x.f_Replace ++ [])))))), [], by simp [c_api_Request], by simp only [List.length_append, Cd.len, List.length_nil] <;> rfl, fun z => by simp [c_api_Request]⟩
theorem opn_api_Request_27 : Opn Try.prog 27 c_api_Request ok_api_Request := fun enc w base spare held fuel cs d ps hd => by
  cases fuel with
  | zero => exact (opn_zero hd).elim
  | succ fuel =>
    obtain ⟨hlen, hf⟩ := opn_fields Try.underlying27 hd
    rw [show Try.prog.cellsOf 27 = 39 from by kernel_rfl] at hlen
    obtain ⟨d0, p0, h0⟩ : ∃ d' p', DataW.trod enc Try.prog w base spare held fuel 4 ((cs.drop 0).take (Try.prog.cellsOf 4)) = some (d', p') := hf 0 _ rfl
    obtain ⟨x0, e0, o0⟩ := (opn_bool Try.underlying4) enc w base spare held fuel _ _ _ h0
    rw [show Try.prog.cellsOf 4 = 1 from by kernel_rfl] at e0
    obtain ⟨d1, p1, h1⟩ : ∃ d' p', DataW.trod enc Try.prog w base spare held fuel 23 ((cs.drop 1).take (Try.prog.cellsOf 23)) = some (d', p') := hf 1 _ rfl
    obtain ⟨x1, e1, o1⟩ := (opn_vec Try.underlying23 (by kernel_rfl) (by kernel_rfl) (opn_int Try.underlying5)) enc w base spare held fuel _ _ _ h1
    rw [show Try.prog.cellsOf 23 = 32 from by kernel_rfl] at e1
    obtain ⟨d2, p2, h2⟩ : ∃ d' p', DataW.trod enc Try.prog w base spare held fuel 4 ((cs.drop 33).take (Try.prog.cellsOf 4)) = some (d', p') := hf 2 _ rfl
    obtain ⟨x2, e2, o2⟩ := (opn_bool Try.underlying4) enc w base spare held fuel _ _ _ h2
    rw [show Try.prog.cellsOf 4 = 1 from by kernel_rfl] at e2
    obtain ⟨d3, p3, h3⟩ : ∃ d' p', DataW.trod enc Try.prog w base spare held fuel 3 ((cs.drop 34).take (Try.prog.cellsOf 3)) = some (d', p') := hf 3 _ rfl
    obtain ⟨x3, e3, o3⟩ := (opn_int Try.underlying3) enc w base spare held fuel _ _ _ h3
    rw [show Try.prog.cellsOf 3 = 1 from by kernel_rfl] at e3
    obtain ⟨d4, p4, h4⟩ : ∃ d' p', DataW.trod enc Try.prog w base spare held fuel 4 ((cs.drop 35).take (Try.prog.cellsOf 4)) = some (d', p') := hf 4 _ rfl
    obtain ⟨x4, e4, o4⟩ := (opn_bool Try.underlying4) enc w base spare held fuel _ _ _ h4
    rw [show Try.prog.cellsOf 4 = 1 from by kernel_rfl] at e4
    obtain ⟨d5, p5, h5⟩ : ∃ d' p', DataW.trod enc Try.prog w base spare held fuel 24 ((cs.drop 36).take (Try.prog.cellsOf 24)) = some (d', p') := hf 5 _ rfl
    obtain ⟨x5, e5, o5⟩ := (opn_int Try.underlying24) enc w base spare held fuel _ _ _ h5
    rw [show Try.prog.cellsOf 24 = 1 from by kernel_rfl] at e5
    obtain ⟨d6, p6, h6⟩ : ∃ d' p', DataW.trod enc Try.prog w base spare held fuel 4 ((cs.drop 37).take (Try.prog.cellsOf 4)) = some (d', p') := hf 6 _ rfl
    obtain ⟨x6, e6, o6⟩ := (opn_bool Try.underlying4) enc w base spare held fuel _ _ _ h6
    rw [show Try.prog.cellsOf 4 = 1 from by kernel_rfl] at e6
    obtain ⟨d7, p7, h7⟩ : ∃ d' p', DataW.trod enc Try.prog w base spare held fuel 25 ((cs.drop 38).take (Try.prog.cellsOf 25)) = some (d', p') := hf 7 _ rfl
    obtain ⟨x7, e7, o7⟩ := (opn_hd Try.underlying25) enc w base spare held fuel _ _ _ h7
    rw [show Try.prog.cellsOf 25 = 1 from by kernel_rfl] at e7
    refine ⟨⟨x0, x1, x2, x3, x4, x5, x6, x7⟩, ?_, o0, o1, o2, o3, o4, o5, o6, o7⟩
    show cs = Cd.cs cBool x0 ++ (Cd.cs (cVec (cInt .u8) 32 (by decide)) x1 ++ (Cd.cs cBool x2 ++ (Cd.cs (cInt .i64) x3 ++ (Cd.cs cBool x4 ++ (Cd.cs (cInt .u32) x5 ++ (Cd.cs cBool x6 ++ (Cd.cs cHd x7 ++ [])))))))
    rw [← e0, ← e1, ← e2, ← e3, ← e4, ← e5, ← e6, ← e7]
    exact (split_cons (l := cs) (o := 0) (k := 1) (split_cons (l := cs) (o := 1) (k := 32) (split_cons (l := cs) (o := 33) (k := 1) (split_cons (l := cs) (o := 34) (k := 1) (split_cons (l := cs) (o := 35) (k := 1) (split_cons (l := cs) (o := 36) (k := 1) (split_cons (l := cs) (o := 37) (k := 1) (split_cons (l := cs) (o := 38) (k := 1) (split_nil (l := cs) (o := 39) (by omega))))))))))
theorem places_api_Request_27 : ∀ w, ((#[{ name := "HasPrivate", type := 4, offset := 0, embedded := false, tag := "", pkgPath := "", byteOffset := 0 }, { name := "Private", type := 23, offset := 1, embedded := false, tag := "", pkgPath := "", byteOffset := 1 }, { name := "HasPort", type := 4, offset := 33, embedded := false, tag := "", pkgPath := "", byteOffset := 33 }, { name := "Port", type := 3, offset := 34, embedded := false, tag := "", pkgPath := "", byteOffset := 40 }, { name := "HasMark", type := 4, offset := 35, embedded := false, tag := "", pkgPath := "", byteOffset := 48 }, { name := "Mark", type := 24, offset := 36, embedded := false, tag := "", pkgPath := "", byteOffset := 52 }, { name := "Replace", type := 4, offset := 37, embedded := false, tag := "", pkgPath := "", byteOffset := 56 }, { name := "Peers", type := 25, offset := 38, embedded := false, tag := "", pkgPath := "", byteOffset := 64 }] : Array Field).mapM fun f => (do pure (f.offset, ← sizeOf f.type) : Sem (Nat × Nat))).run Try.prog w = .ok #[(0, 1), (1, 32), (33, 1), (34, 1), (35, 1), (36, 1), (37, 1), (38, 1)] w := fun w => by
  simp [Try.sizeOf4 w, Try.sizeOf23 w, Try.sizeOf4 w, Try.sizeOf3 w, Try.sizeOf4 w, Try.sizeOf24 w, Try.sizeOf4 w, Try.sizeOf25 w]
structure S_api_Addr where
  f_V : Int
  f_B : (Vector Int 16)
  deriving DecidableEq, Inhabited
def c_api_Addr : Cd S_api_Addr := ⟨17, fun x => Cd.cs (cInt .i64) x.f_V ++ (Cd.cs (cVec (cInt .u8) 16 (by decide)) x.f_B ++ []), fun x => by simp only [List.length_append, Cd.len, List.length_nil] <;> rfl, fun x v hv => by
  simp only [List.mem_append, List.not_mem_nil, or_false] at hv
  rcases hv with hv | hv
  all_goals exact Cd.one _ _ _ hv, by decide⟩
def ok_api_Addr (x : S_api_Addr) : Prop := (fun n : Int => (Lit.int .i64 n).wf = true) x.f_V ∧ (fun v : (Vector Int 16) => ∀ x ∈ v.toList, (fun n : Int => (Lit.int .u8 n).wf = true) x) x.f_B
theorem c_api_Addr_f_V (x : S_api_Addr) : Lens (c_api_Addr.cs x) 0 (cInt .i64) x.f_V (fun z => c_api_Addr.cs { x with f_V := z }) :=
  ⟨[], Cd.cs (cVec (cInt .u8) 16 (by decide)) x.f_B ++ [], by simp [c_api_Addr], by simp only [List.length_append, Cd.len, List.length_nil] <;> rfl, fun z => by simp [c_api_Addr]⟩
theorem c_api_Addr_f_B (x : S_api_Addr) : Lens (c_api_Addr.cs x) 1 (cVec (cInt .u8) 16 (by decide)) x.f_B (fun z => c_api_Addr.cs { x with f_B := z }) :=
  ⟨Cd.cs (cInt .i64) x.f_V ++ [], [], by simp [c_api_Addr], by simp only [List.length_append, Cd.len, List.length_nil] <;> rfl, fun z => by simp [c_api_Addr]⟩
theorem eq_api_Addr_32 : Eqs Try.prog 32 c_api_Addr true 2 := fun d hd x y w => by
  obtain ⟨d, rfl⟩ : ∃ e, d = e + 1 := ⟨d - 1, by omega⟩
  refine (run_eq_struct (xs := (c_api_Addr.cs x).toArray) (ys := (c_api_Addr.cs y).toArray) Try.underlying32 Try.stoodInHeld32).trans ?_
  refine Eq.trans (eqf_cons (c_api_Addr_f_V x) (c_api_Addr_f_V y) (by rfl) (by rfl) Try.isAgg3 Try.sizeOf3 (.inr rfl) (eqs_int Try.underlying3) (by omega) (eqf_cons (c_api_Addr_f_B x) (c_api_Addr_f_B y) (by rfl) (by rfl) Try.isAgg30 Try.sizeOf30 (.inl rfl) (eqs_vec Try.underlying30 infoT5 Try.sizeOf5 Try.isAgg5 (.inr rfl) (eqs_int Try.underlying5)) (by omega) eqf_nil)) ?_
  congr 1
  cases x; cases y
  rw [Bool.eq_iff_iff]; simp
theorem opn_api_Addr_32 : Opn Try.prog 32 c_api_Addr ok_api_Addr := fun enc w base spare held fuel cs d ps hd => by
  cases fuel with
  | zero => exact (opn_zero hd).elim
  | succ fuel =>
    obtain ⟨hlen, hf⟩ := opn_fields Try.underlying32 hd
    rw [show Try.prog.cellsOf 32 = 17 from by kernel_rfl] at hlen
    obtain ⟨d0, p0, h0⟩ : ∃ d' p', DataW.trod enc Try.prog w base spare held fuel 3 ((cs.drop 0).take (Try.prog.cellsOf 3)) = some (d', p') := hf 0 _ rfl
    obtain ⟨x0, e0, o0⟩ := (opn_int Try.underlying3) enc w base spare held fuel _ _ _ h0
    rw [show Try.prog.cellsOf 3 = 1 from by kernel_rfl] at e0
    obtain ⟨d1, p1, h1⟩ : ∃ d' p', DataW.trod enc Try.prog w base spare held fuel 30 ((cs.drop 1).take (Try.prog.cellsOf 30)) = some (d', p') := hf 1 _ rfl
    obtain ⟨x1, e1, o1⟩ := (opn_vec Try.underlying30 (by kernel_rfl) (by kernel_rfl) (opn_int Try.underlying5)) enc w base spare held fuel _ _ _ h1
    rw [show Try.prog.cellsOf 30 = 16 from by kernel_rfl] at e1
    refine ⟨⟨x0, x1⟩, ?_, o0, o1⟩
    show cs = Cd.cs (cInt .i64) x0 ++ (Cd.cs (cVec (cInt .u8) 16 (by decide)) x1 ++ [])
    rw [← e0, ← e1]
    exact (split_cons (l := cs) (o := 0) (k := 1) (split_cons (l := cs) (o := 1) (k := 16) (split_nil (l := cs) (o := 17) (by omega))))
theorem places_api_Addr_32 : ∀ w, ((#[{ name := "V", type := 3, offset := 0, embedded := false, tag := "", pkgPath := "", byteOffset := 0 }, { name := "B", type := 30, offset := 1, embedded := false, tag := "", pkgPath := "", byteOffset := 8 }] : Array Field).mapM fun f => (do pure (f.offset, ← sizeOf f.type) : Sem (Nat × Nat))).run Try.prog w = .ok #[(0, 1), (1, 16)] w := fun w => by
  simp [Try.sizeOf3 w, Try.sizeOf30 w]
structure S_api_Endpoint where
  f_A : S_api_Addr
  f_Port : Int
  deriving DecidableEq, Inhabited
def c_api_Endpoint : Cd S_api_Endpoint := ⟨18, fun x => Cd.cs c_api_Addr x.f_A ++ (Cd.cs (cInt .i64) x.f_Port ++ []), fun x => by simp only [List.length_append, Cd.len, List.length_nil] <;> rfl, fun x v hv => by
  simp only [List.mem_append, List.not_mem_nil, or_false] at hv
  rcases hv with hv | hv
  all_goals exact Cd.one _ _ _ hv, by decide⟩
def ok_api_Endpoint (x : S_api_Endpoint) : Prop := ok_api_Addr x.f_A ∧ (fun n : Int => (Lit.int .i64 n).wf = true) x.f_Port
theorem c_api_Endpoint_f_A (x : S_api_Endpoint) : Lens (c_api_Endpoint.cs x) 0 c_api_Addr x.f_A (fun z => c_api_Endpoint.cs { x with f_A := z }) :=
  ⟨[], Cd.cs (cInt .i64) x.f_Port ++ [], by simp [c_api_Endpoint], by simp only [List.length_append, Cd.len, List.length_nil] <;> rfl, fun z => by simp [c_api_Endpoint]⟩
theorem c_api_Endpoint_f_Port (x : S_api_Endpoint) : Lens (c_api_Endpoint.cs x) 17 (cInt .i64) x.f_Port (fun z => c_api_Endpoint.cs { x with f_Port := z }) :=
  ⟨Cd.cs c_api_Addr x.f_A ++ [], [], by simp [c_api_Endpoint], by simp only [List.length_append, Cd.len, List.length_nil] <;> rfl, fun z => by simp [c_api_Endpoint]⟩
theorem eq_api_Endpoint_34 : Eqs Try.prog 34 c_api_Endpoint true 3 := fun d hd x y w => by
  obtain ⟨d, rfl⟩ : ∃ e, d = e + 1 := ⟨d - 1, by omega⟩
  refine (run_eq_struct (xs := (c_api_Endpoint.cs x).toArray) (ys := (c_api_Endpoint.cs y).toArray) Try.underlying34 Try.stoodInHeld34).trans ?_
  refine Eq.trans (eqf_cons (c_api_Endpoint_f_A x) (c_api_Endpoint_f_A y) (by rfl) (by rfl) Try.isAgg32 Try.sizeOf32 (.inl rfl) (eq_api_Addr_32) (by omega) (eqf_cons (c_api_Endpoint_f_Port x) (c_api_Endpoint_f_Port y) (by rfl) (by rfl) Try.isAgg3 Try.sizeOf3 (.inr rfl) (eqs_int Try.underlying3) (by omega) eqf_nil)) ?_
  congr 1
  cases x; cases y
  rw [Bool.eq_iff_iff]; simp
theorem opn_api_Endpoint_34 : Opn Try.prog 34 c_api_Endpoint ok_api_Endpoint := fun enc w base spare held fuel cs d ps hd => by
  cases fuel with
  | zero => exact (opn_zero hd).elim
  | succ fuel =>
    obtain ⟨hlen, hf⟩ := opn_fields Try.underlying34 hd
    rw [show Try.prog.cellsOf 34 = 18 from by kernel_rfl] at hlen
    obtain ⟨d0, p0, h0⟩ : ∃ d' p', DataW.trod enc Try.prog w base spare held fuel 32 ((cs.drop 0).take (Try.prog.cellsOf 32)) = some (d', p') := hf 0 _ rfl
    obtain ⟨x0, e0, o0⟩ := (opn_api_Addr_32) enc w base spare held fuel _ _ _ h0
    rw [show Try.prog.cellsOf 32 = 17 from by kernel_rfl] at e0
    obtain ⟨d1, p1, h1⟩ : ∃ d' p', DataW.trod enc Try.prog w base spare held fuel 3 ((cs.drop 17).take (Try.prog.cellsOf 3)) = some (d', p') := hf 1 _ rfl
    obtain ⟨x1, e1, o1⟩ := (opn_int Try.underlying3) enc w base spare held fuel _ _ _ h1
    rw [show Try.prog.cellsOf 3 = 1 from by kernel_rfl] at e1
    refine ⟨⟨x0, x1⟩, ?_, o0, o1⟩
    show cs = Cd.cs c_api_Addr x0 ++ (Cd.cs (cInt .i64) x1 ++ [])
    rw [← e0, ← e1]
    exact (split_cons (l := cs) (o := 0) (k := 17) (split_cons (l := cs) (o := 17) (k := 1) (split_nil (l := cs) (o := 18) (by omega))))
theorem places_api_Endpoint_34 : ∀ w, ((#[{ name := "A", type := 32, offset := 0, embedded := false, tag := "", pkgPath := "", byteOffset := 0 }, { name := "Port", type := 3, offset := 17, embedded := false, tag := "", pkgPath := "", byteOffset := 24 }] : Array Field).mapM fun f => (do pure (f.offset, ← sizeOf f.type) : Sem (Nat × Nat))).run Try.prog w = .ok #[(0, 17), (17, 1)] w := fun w => by
  simp [Try.sizeOf32 w, Try.sizeOf3 w]
structure S_api_PeerChange where
  f_Key : (Vector Int 32)
  f_Remove : Bool
  f_Update : Bool
  f_HasPsk : Bool
  f_Psk : (Vector Int 32)
  f_HasEnd : Bool
  f_End : S_api_Endpoint
  f_HasKeep : Bool
  f_Keep : Int
  f_Replace : Bool
  f_Allowed : Hd
  deriving DecidableEq, Inhabited
def c_api_PeerChange : Cd S_api_PeerChange := ⟨90, fun x => Cd.cs (cVec (cInt .u8) 32 (by decide)) x.f_Key ++ (Cd.cs cBool x.f_Remove ++ (Cd.cs cBool x.f_Update ++ (Cd.cs cBool x.f_HasPsk ++ (Cd.cs (cVec (cInt .u8) 32 (by decide)) x.f_Psk ++ (Cd.cs cBool x.f_HasEnd ++ (Cd.cs c_api_Endpoint x.f_End ++ (Cd.cs cBool x.f_HasKeep ++ (Cd.cs (cInt .i64) x.f_Keep ++ (Cd.cs cBool x.f_Replace ++ (Cd.cs cHd x.f_Allowed ++ [])))))))))), fun x => by simp only [List.length_append, Cd.len, List.length_nil] <;> rfl, fun x v hv => by
  simp only [List.mem_append, List.not_mem_nil, or_false] at hv
  rcases hv with hv | hv | hv | hv | hv | hv | hv | hv | hv | hv | hv
  all_goals exact Cd.one _ _ _ hv, by decide⟩
def ok_api_PeerChange (x : S_api_PeerChange) : Prop := (fun v : (Vector Int 32) => ∀ x ∈ v.toList, (fun n : Int => (Lit.int .u8 n).wf = true) x) x.f_Key ∧ (fun _ : Bool => True) x.f_Remove ∧ (fun _ : Bool => True) x.f_Update ∧ (fun _ : Bool => True) x.f_HasPsk ∧ (fun v : (Vector Int 32) => ∀ x ∈ v.toList, (fun n : Int => (Lit.int .u8 n).wf = true) x) x.f_Psk ∧ (fun _ : Bool => True) x.f_HasEnd ∧ ok_api_Endpoint x.f_End ∧ (fun _ : Bool => True) x.f_HasKeep ∧ (fun n : Int => (Lit.int .i64 n).wf = true) x.f_Keep ∧ (fun _ : Bool => True) x.f_Replace ∧ (fun _ : Hd => True) x.f_Allowed
theorem c_api_PeerChange_f_Key (x : S_api_PeerChange) : Lens (c_api_PeerChange.cs x) 0 (cVec (cInt .u8) 32 (by decide)) x.f_Key (fun z => c_api_PeerChange.cs { x with f_Key := z }) :=
  ⟨[], Cd.cs cBool x.f_Remove ++ (Cd.cs cBool x.f_Update ++ (Cd.cs cBool x.f_HasPsk ++ (Cd.cs (cVec (cInt .u8) 32 (by decide)) x.f_Psk ++ (Cd.cs cBool x.f_HasEnd ++ (Cd.cs c_api_Endpoint x.f_End ++ (Cd.cs cBool x.f_HasKeep ++ (Cd.cs (cInt .i64) x.f_Keep ++ (Cd.cs cBool x.f_Replace ++ (Cd.cs cHd x.f_Allowed ++ []))))))))), by simp [c_api_PeerChange], by simp only [List.length_append, Cd.len, List.length_nil] <;> rfl, fun z => by simp [c_api_PeerChange]⟩
theorem c_api_PeerChange_f_Remove (x : S_api_PeerChange) : Lens (c_api_PeerChange.cs x) 32 cBool x.f_Remove (fun z => c_api_PeerChange.cs { x with f_Remove := z }) :=
  ⟨Cd.cs (cVec (cInt .u8) 32 (by decide)) x.f_Key ++ [], Cd.cs cBool x.f_Update ++ (Cd.cs cBool x.f_HasPsk ++ (Cd.cs (cVec (cInt .u8) 32 (by decide)) x.f_Psk ++ (Cd.cs cBool x.f_HasEnd ++ (Cd.cs c_api_Endpoint x.f_End ++ (Cd.cs cBool x.f_HasKeep ++ (Cd.cs (cInt .i64) x.f_Keep ++ (Cd.cs cBool x.f_Replace ++ (Cd.cs cHd x.f_Allowed ++ [])))))))), by simp [c_api_PeerChange], by simp only [List.length_append, Cd.len, List.length_nil] <;> rfl, fun z => by simp [c_api_PeerChange]⟩
theorem c_api_PeerChange_f_Update (x : S_api_PeerChange) : Lens (c_api_PeerChange.cs x) 33 cBool x.f_Update (fun z => c_api_PeerChange.cs { x with f_Update := z }) :=
  ⟨Cd.cs (cVec (cInt .u8) 32 (by decide)) x.f_Key ++ (Cd.cs cBool x.f_Remove ++ []), Cd.cs cBool x.f_HasPsk ++ (Cd.cs (cVec (cInt .u8) 32 (by decide)) x.f_Psk ++ (Cd.cs cBool x.f_HasEnd ++ (Cd.cs c_api_Endpoint x.f_End ++ (Cd.cs cBool x.f_HasKeep ++ (Cd.cs (cInt .i64) x.f_Keep ++ (Cd.cs cBool x.f_Replace ++ (Cd.cs cHd x.f_Allowed ++ []))))))), by simp [c_api_PeerChange], by simp only [List.length_append, Cd.len, List.length_nil] <;> rfl, fun z => by simp [c_api_PeerChange]⟩
theorem c_api_PeerChange_f_HasPsk (x : S_api_PeerChange) : Lens (c_api_PeerChange.cs x) 34 cBool x.f_HasPsk (fun z => c_api_PeerChange.cs { x with f_HasPsk := z }) :=
  ⟨Cd.cs (cVec (cInt .u8) 32 (by decide)) x.f_Key ++ (Cd.cs cBool x.f_Remove ++ (Cd.cs cBool x.f_Update ++ [])), Cd.cs (cVec (cInt .u8) 32 (by decide)) x.f_Psk ++ (Cd.cs cBool x.f_HasEnd ++ (Cd.cs c_api_Endpoint x.f_End ++ (Cd.cs cBool x.f_HasKeep ++ (Cd.cs (cInt .i64) x.f_Keep ++ (Cd.cs cBool x.f_Replace ++ (Cd.cs cHd x.f_Allowed ++ [])))))), by simp [c_api_PeerChange], by simp only [List.length_append, Cd.len, List.length_nil] <;> rfl, fun z => by simp [c_api_PeerChange]⟩
theorem c_api_PeerChange_f_Psk (x : S_api_PeerChange) : Lens (c_api_PeerChange.cs x) 35 (cVec (cInt .u8) 32 (by decide)) x.f_Psk (fun z => c_api_PeerChange.cs { x with f_Psk := z }) :=
  ⟨Cd.cs (cVec (cInt .u8) 32 (by decide)) x.f_Key ++ (Cd.cs cBool x.f_Remove ++ (Cd.cs cBool x.f_Update ++ (Cd.cs cBool x.f_HasPsk ++ []))), Cd.cs cBool x.f_HasEnd ++ (Cd.cs c_api_Endpoint x.f_End ++ (Cd.cs cBool x.f_HasKeep ++ (Cd.cs (cInt .i64) x.f_Keep ++ (Cd.cs cBool x.f_Replace ++ (Cd.cs cHd x.f_Allowed ++ []))))), by simp [c_api_PeerChange], by simp only [List.length_append, Cd.len, List.length_nil] <;> rfl, fun z => by simp [c_api_PeerChange]⟩
theorem c_api_PeerChange_f_HasEnd (x : S_api_PeerChange) : Lens (c_api_PeerChange.cs x) 67 cBool x.f_HasEnd (fun z => c_api_PeerChange.cs { x with f_HasEnd := z }) :=
  ⟨Cd.cs (cVec (cInt .u8) 32 (by decide)) x.f_Key ++ (Cd.cs cBool x.f_Remove ++ (Cd.cs cBool x.f_Update ++ (Cd.cs cBool x.f_HasPsk ++ (Cd.cs (cVec (cInt .u8) 32 (by decide)) x.f_Psk ++ [])))), Cd.cs c_api_Endpoint x.f_End ++ (Cd.cs cBool x.f_HasKeep ++ (Cd.cs (cInt .i64) x.f_Keep ++ (Cd.cs cBool x.f_Replace ++ (Cd.cs cHd x.f_Allowed ++ [])))), by simp [c_api_PeerChange], by simp only [List.length_append, Cd.len, List.length_nil] <;> rfl, fun z => by simp [c_api_PeerChange]⟩
theorem c_api_PeerChange_f_End (x : S_api_PeerChange) : Lens (c_api_PeerChange.cs x) 68 c_api_Endpoint x.f_End (fun z => c_api_PeerChange.cs { x with f_End := z }) :=
  ⟨Cd.cs (cVec (cInt .u8) 32 (by decide)) x.f_Key ++ (Cd.cs cBool x.f_Remove ++ (Cd.cs cBool x.f_Update ++ (Cd.cs cBool x.f_HasPsk ++ (Cd.cs (cVec (cInt .u8) 32 (by decide)) x.f_Psk ++ (Cd.cs cBool x.f_HasEnd ++ []))))), Cd.cs cBool x.f_HasKeep ++ (Cd.cs (cInt .i64) x.f_Keep ++ (Cd.cs cBool x.f_Replace ++ (Cd.cs cHd x.f_Allowed ++ []))), by simp [c_api_PeerChange], by simp only [List.length_append, Cd.len, List.length_nil] <;> rfl, fun z => by simp [c_api_PeerChange]⟩
theorem c_api_PeerChange_f_HasKeep (x : S_api_PeerChange) : Lens (c_api_PeerChange.cs x) 86 cBool x.f_HasKeep (fun z => c_api_PeerChange.cs { x with f_HasKeep := z }) :=
  ⟨Cd.cs (cVec (cInt .u8) 32 (by decide)) x.f_Key ++ (Cd.cs cBool x.f_Remove ++ (Cd.cs cBool x.f_Update ++ (Cd.cs cBool x.f_HasPsk ++ (Cd.cs (cVec (cInt .u8) 32 (by decide)) x.f_Psk ++ (Cd.cs cBool x.f_HasEnd ++ (Cd.cs c_api_Endpoint x.f_End ++ [])))))), Cd.cs (cInt .i64) x.f_Keep ++ (Cd.cs cBool x.f_Replace ++ (Cd.cs cHd x.f_Allowed ++ [])), by simp [c_api_PeerChange], by simp only [List.length_append, Cd.len, List.length_nil] <;> rfl, fun z => by simp [c_api_PeerChange]⟩
theorem c_api_PeerChange_f_Keep (x : S_api_PeerChange) : Lens (c_api_PeerChange.cs x) 87 (cInt .i64) x.f_Keep (fun z => c_api_PeerChange.cs { x with f_Keep := z }) :=
  ⟨Cd.cs (cVec (cInt .u8) 32 (by decide)) x.f_Key ++ (Cd.cs cBool x.f_Remove ++ (Cd.cs cBool x.f_Update ++ (Cd.cs cBool x.f_HasPsk ++ (Cd.cs (cVec (cInt .u8) 32 (by decide)) x.f_Psk ++ (Cd.cs cBool x.f_HasEnd ++ (Cd.cs c_api_Endpoint x.f_End ++ (Cd.cs cBool x.f_HasKeep ++ []))))))), Cd.cs cBool x.f_Replace ++ (Cd.cs cHd x.f_Allowed ++ []), by simp [c_api_PeerChange], by simp only [List.length_append, Cd.len, List.length_nil] <;> rfl, fun z => by simp [c_api_PeerChange]⟩
theorem c_api_PeerChange_f_Replace (x : S_api_PeerChange) : Lens (c_api_PeerChange.cs x) 88 cBool x.f_Replace (fun z => c_api_PeerChange.cs { x with f_Replace := z }) :=
  ⟨Cd.cs (cVec (cInt .u8) 32 (by decide)) x.f_Key ++ (Cd.cs cBool x.f_Remove ++ (Cd.cs cBool x.f_Update ++ (Cd.cs cBool x.f_HasPsk ++ (Cd.cs (cVec (cInt .u8) 32 (by decide)) x.f_Psk ++ (Cd.cs cBool x.f_HasEnd ++ (Cd.cs c_api_Endpoint x.f_End ++ (Cd.cs cBool x.f_HasKeep ++ (Cd.cs (cInt .i64) x.f_Keep ++ [])))))))), Cd.cs cHd x.f_Allowed ++ [], by simp [c_api_PeerChange], by simp only [List.length_append, Cd.len, List.length_nil] <;> rfl, fun z => by simp [c_api_PeerChange]⟩
theorem c_api_PeerChange_f_Allowed (x : S_api_PeerChange) : Lens (c_api_PeerChange.cs x) 89 cHd x.f_Allowed (fun z => c_api_PeerChange.cs { x with f_Allowed := z }) :=
  ⟨Cd.cs (cVec (cInt .u8) 32 (by decide)) x.f_Key ++ (Cd.cs cBool x.f_Remove ++ (Cd.cs cBool x.f_Update ++ (Cd.cs cBool x.f_HasPsk ++ (Cd.cs (cVec (cInt .u8) 32 (by decide)) x.f_Psk ++ (Cd.cs cBool x.f_HasEnd ++ (Cd.cs c_api_Endpoint x.f_End ++ (Cd.cs cBool x.f_HasKeep ++ (Cd.cs (cInt .i64) x.f_Keep ++ (Cd.cs cBool x.f_Replace ++ []))))))))), [], by simp [c_api_PeerChange], by simp only [List.length_append, Cd.len, List.length_nil] <;> rfl, fun z => by simp [c_api_PeerChange]⟩
theorem opn_api_PeerChange_37 : Opn Try.prog 37 c_api_PeerChange ok_api_PeerChange := fun enc w base spare held fuel cs d ps hd => by
  cases fuel with
  | zero => exact (opn_zero hd).elim
  | succ fuel =>
    obtain ⟨hlen, hf⟩ := opn_fields Try.underlying37 hd
    rw [show Try.prog.cellsOf 37 = 90 from by kernel_rfl] at hlen
    obtain ⟨d0, p0, h0⟩ : ∃ d' p', DataW.trod enc Try.prog w base spare held fuel 23 ((cs.drop 0).take (Try.prog.cellsOf 23)) = some (d', p') := hf 0 _ rfl
    obtain ⟨x0, e0, o0⟩ := (opn_vec Try.underlying23 (by kernel_rfl) (by kernel_rfl) (opn_int Try.underlying5)) enc w base spare held fuel _ _ _ h0
    rw [show Try.prog.cellsOf 23 = 32 from by kernel_rfl] at e0
    obtain ⟨d1, p1, h1⟩ : ∃ d' p', DataW.trod enc Try.prog w base spare held fuel 4 ((cs.drop 32).take (Try.prog.cellsOf 4)) = some (d', p') := hf 1 _ rfl
    obtain ⟨x1, e1, o1⟩ := (opn_bool Try.underlying4) enc w base spare held fuel _ _ _ h1
    rw [show Try.prog.cellsOf 4 = 1 from by kernel_rfl] at e1
    obtain ⟨d2, p2, h2⟩ : ∃ d' p', DataW.trod enc Try.prog w base spare held fuel 4 ((cs.drop 33).take (Try.prog.cellsOf 4)) = some (d', p') := hf 2 _ rfl
    obtain ⟨x2, e2, o2⟩ := (opn_bool Try.underlying4) enc w base spare held fuel _ _ _ h2
    rw [show Try.prog.cellsOf 4 = 1 from by kernel_rfl] at e2
    obtain ⟨d3, p3, h3⟩ : ∃ d' p', DataW.trod enc Try.prog w base spare held fuel 4 ((cs.drop 34).take (Try.prog.cellsOf 4)) = some (d', p') := hf 3 _ rfl
    obtain ⟨x3, e3, o3⟩ := (opn_bool Try.underlying4) enc w base spare held fuel _ _ _ h3
    rw [show Try.prog.cellsOf 4 = 1 from by kernel_rfl] at e3
    obtain ⟨d4, p4, h4⟩ : ∃ d' p', DataW.trod enc Try.prog w base spare held fuel 23 ((cs.drop 35).take (Try.prog.cellsOf 23)) = some (d', p') := hf 4 _ rfl
    obtain ⟨x4, e4, o4⟩ := (opn_vec Try.underlying23 (by kernel_rfl) (by kernel_rfl) (opn_int Try.underlying5)) enc w base spare held fuel _ _ _ h4
    rw [show Try.prog.cellsOf 23 = 32 from by kernel_rfl] at e4
    obtain ⟨d5, p5, h5⟩ : ∃ d' p', DataW.trod enc Try.prog w base spare held fuel 4 ((cs.drop 67).take (Try.prog.cellsOf 4)) = some (d', p') := hf 5 _ rfl
    obtain ⟨x5, e5, o5⟩ := (opn_bool Try.underlying4) enc w base spare held fuel _ _ _ h5
    rw [show Try.prog.cellsOf 4 = 1 from by kernel_rfl] at e5
    obtain ⟨d6, p6, h6⟩ : ∃ d' p', DataW.trod enc Try.prog w base spare held fuel 34 ((cs.drop 68).take (Try.prog.cellsOf 34)) = some (d', p') := hf 6 _ rfl
    obtain ⟨x6, e6, o6⟩ := (opn_api_Endpoint_34) enc w base spare held fuel _ _ _ h6
    rw [show Try.prog.cellsOf 34 = 18 from by kernel_rfl] at e6
    obtain ⟨d7, p7, h7⟩ : ∃ d' p', DataW.trod enc Try.prog w base spare held fuel 4 ((cs.drop 86).take (Try.prog.cellsOf 4)) = some (d', p') := hf 7 _ rfl
    obtain ⟨x7, e7, o7⟩ := (opn_bool Try.underlying4) enc w base spare held fuel _ _ _ h7
    rw [show Try.prog.cellsOf 4 = 1 from by kernel_rfl] at e7
    obtain ⟨d8, p8, h8⟩ : ∃ d' p', DataW.trod enc Try.prog w base spare held fuel 3 ((cs.drop 87).take (Try.prog.cellsOf 3)) = some (d', p') := hf 8 _ rfl
    obtain ⟨x8, e8, o8⟩ := (opn_int Try.underlying3) enc w base spare held fuel _ _ _ h8
    rw [show Try.prog.cellsOf 3 = 1 from by kernel_rfl] at e8
    obtain ⟨d9, p9, h9⟩ : ∃ d' p', DataW.trod enc Try.prog w base spare held fuel 4 ((cs.drop 88).take (Try.prog.cellsOf 4)) = some (d', p') := hf 9 _ rfl
    obtain ⟨x9, e9, o9⟩ := (opn_bool Try.underlying4) enc w base spare held fuel _ _ _ h9
    rw [show Try.prog.cellsOf 4 = 1 from by kernel_rfl] at e9
    obtain ⟨d10, p10, h10⟩ : ∃ d' p', DataW.trod enc Try.prog w base spare held fuel 35 ((cs.drop 89).take (Try.prog.cellsOf 35)) = some (d', p') := hf 10 _ rfl
    obtain ⟨x10, e10, o10⟩ := (opn_hd Try.underlying35) enc w base spare held fuel _ _ _ h10
    rw [show Try.prog.cellsOf 35 = 1 from by kernel_rfl] at e10
    refine ⟨⟨x0, x1, x2, x3, x4, x5, x6, x7, x8, x9, x10⟩, ?_, o0, o1, o2, o3, o4, o5, o6, o7, o8, o9, o10⟩
    show cs = Cd.cs (cVec (cInt .u8) 32 (by decide)) x0 ++ (Cd.cs cBool x1 ++ (Cd.cs cBool x2 ++ (Cd.cs cBool x3 ++ (Cd.cs (cVec (cInt .u8) 32 (by decide)) x4 ++ (Cd.cs cBool x5 ++ (Cd.cs c_api_Endpoint x6 ++ (Cd.cs cBool x7 ++ (Cd.cs (cInt .i64) x8 ++ (Cd.cs cBool x9 ++ (Cd.cs cHd x10 ++ []))))))))))
    rw [← e0, ← e1, ← e2, ← e3, ← e4, ← e5, ← e6, ← e7, ← e8, ← e9, ← e10]
    exact (split_cons (l := cs) (o := 0) (k := 32) (split_cons (l := cs) (o := 32) (k := 1) (split_cons (l := cs) (o := 33) (k := 1) (split_cons (l := cs) (o := 34) (k := 1) (split_cons (l := cs) (o := 35) (k := 32) (split_cons (l := cs) (o := 67) (k := 1) (split_cons (l := cs) (o := 68) (k := 18) (split_cons (l := cs) (o := 86) (k := 1) (split_cons (l := cs) (o := 87) (k := 1) (split_cons (l := cs) (o := 88) (k := 1) (split_cons (l := cs) (o := 89) (k := 1) (split_nil (l := cs) (o := 90) (by omega)))))))))))))
theorem places_api_PeerChange_37 : ∀ w, ((#[{ name := "Key", type := 23, offset := 0, embedded := false, tag := "", pkgPath := "", byteOffset := 0 }, { name := "Remove", type := 4, offset := 32, embedded := false, tag := "", pkgPath := "", byteOffset := 32 }, { name := "Update", type := 4, offset := 33, embedded := false, tag := "", pkgPath := "", byteOffset := 33 }, { name := "HasPsk", type := 4, offset := 34, embedded := false, tag := "", pkgPath := "", byteOffset := 34 }, { name := "Psk", type := 23, offset := 35, embedded := false, tag := "", pkgPath := "", byteOffset := 35 }, { name := "HasEnd", type := 4, offset := 67, embedded := false, tag := "", pkgPath := "", byteOffset := 67 }, { name := "End", type := 34, offset := 68, embedded := false, tag := "", pkgPath := "", byteOffset := 72 }, { name := "HasKeep", type := 4, offset := 86, embedded := false, tag := "", pkgPath := "", byteOffset := 104 }, { name := "Keep", type := 3, offset := 87, embedded := false, tag := "", pkgPath := "", byteOffset := 112 }, { name := "Replace", type := 4, offset := 88, embedded := false, tag := "", pkgPath := "", byteOffset := 120 }, { name := "Allowed", type := 35, offset := 89, embedded := false, tag := "", pkgPath := "", byteOffset := 128 }] : Array Field).mapM fun f => (do pure (f.offset, ← sizeOf f.type) : Sem (Nat × Nat))).run Try.prog w = .ok #[(0, 32), (32, 1), (33, 1), (34, 1), (35, 32), (67, 1), (68, 18), (86, 1), (87, 1), (88, 1), (89, 1)] w := fun w => by
  simp [Try.sizeOf23 w, Try.sizeOf4 w, Try.sizeOf4 w, Try.sizeOf4 w, Try.sizeOf23 w, Try.sizeOf4 w, Try.sizeOf34 w, Try.sizeOf4 w, Try.sizeOf3 w, Try.sizeOf4 w, Try.sizeOf35 w]
structure S_api_Prefix where
  f_A : S_api_Addr
  f_Bits : Int
  deriving DecidableEq, Inhabited
def c_api_Prefix : Cd S_api_Prefix := ⟨18, fun x => Cd.cs c_api_Addr x.f_A ++ (Cd.cs (cInt .i64) x.f_Bits ++ []), fun x => by simp only [List.length_append, Cd.len, List.length_nil] <;> rfl, fun x v hv => by
  simp only [List.mem_append, List.not_mem_nil, or_false] at hv
  rcases hv with hv | hv
  all_goals exact Cd.one _ _ _ hv, by decide⟩
def ok_api_Prefix (x : S_api_Prefix) : Prop := ok_api_Addr x.f_A ∧ (fun n : Int => (Lit.int .i64 n).wf = true) x.f_Bits
theorem c_api_Prefix_f_A (x : S_api_Prefix) : Lens (c_api_Prefix.cs x) 0 c_api_Addr x.f_A (fun z => c_api_Prefix.cs { x with f_A := z }) :=
  ⟨[], Cd.cs (cInt .i64) x.f_Bits ++ [], by simp [c_api_Prefix], by simp only [List.length_append, Cd.len, List.length_nil] <;> rfl, fun z => by simp [c_api_Prefix]⟩
theorem c_api_Prefix_f_Bits (x : S_api_Prefix) : Lens (c_api_Prefix.cs x) 17 (cInt .i64) x.f_Bits (fun z => c_api_Prefix.cs { x with f_Bits := z }) :=
  ⟨Cd.cs c_api_Addr x.f_A ++ [], [], by simp [c_api_Prefix], by simp only [List.length_append, Cd.len, List.length_nil] <;> rfl, fun z => by simp [c_api_Prefix]⟩
theorem eq_api_Prefix_46 : Eqs Try.prog 46 c_api_Prefix true 3 := fun d hd x y w => by
  obtain ⟨d, rfl⟩ : ∃ e, d = e + 1 := ⟨d - 1, by omega⟩
  refine (run_eq_struct (xs := (c_api_Prefix.cs x).toArray) (ys := (c_api_Prefix.cs y).toArray) Try.underlying46 Try.stoodInHeld46).trans ?_
  refine Eq.trans (eqf_cons (c_api_Prefix_f_A x) (c_api_Prefix_f_A y) (by rfl) (by rfl) Try.isAgg32 Try.sizeOf32 (.inl rfl) (eq_api_Addr_32) (by omega) (eqf_cons (c_api_Prefix_f_Bits x) (c_api_Prefix_f_Bits y) (by rfl) (by rfl) Try.isAgg3 Try.sizeOf3 (.inr rfl) (eqs_int Try.underlying3) (by omega) eqf_nil)) ?_
  congr 1
  cases x; cases y
  rw [Bool.eq_iff_iff]; simp
theorem opn_api_Prefix_46 : Opn Try.prog 46 c_api_Prefix ok_api_Prefix := fun enc w base spare held fuel cs d ps hd => by
  cases fuel with
  | zero => exact (opn_zero hd).elim
  | succ fuel =>
    obtain ⟨hlen, hf⟩ := opn_fields Try.underlying46 hd
    rw [show Try.prog.cellsOf 46 = 18 from by kernel_rfl] at hlen
    obtain ⟨d0, p0, h0⟩ : ∃ d' p', DataW.trod enc Try.prog w base spare held fuel 32 ((cs.drop 0).take (Try.prog.cellsOf 32)) = some (d', p') := hf 0 _ rfl
    obtain ⟨x0, e0, o0⟩ := (opn_api_Addr_32) enc w base spare held fuel _ _ _ h0
    rw [show Try.prog.cellsOf 32 = 17 from by kernel_rfl] at e0
    obtain ⟨d1, p1, h1⟩ : ∃ d' p', DataW.trod enc Try.prog w base spare held fuel 3 ((cs.drop 17).take (Try.prog.cellsOf 3)) = some (d', p') := hf 1 _ rfl
    obtain ⟨x1, e1, o1⟩ := (opn_int Try.underlying3) enc w base spare held fuel _ _ _ h1
    rw [show Try.prog.cellsOf 3 = 1 from by kernel_rfl] at e1
    refine ⟨⟨x0, x1⟩, ?_, o0, o1⟩
    show cs = Cd.cs c_api_Addr x0 ++ (Cd.cs (cInt .i64) x1 ++ [])
    rw [← e0, ← e1]
    exact (split_cons (l := cs) (o := 0) (k := 17) (split_cons (l := cs) (o := 17) (k := 1) (split_nil (l := cs) (o := 18) (by omega))))
theorem places_api_Prefix_46 : ∀ w, ((#[{ name := "A", type := 32, offset := 0, embedded := false, tag := "", pkgPath := "", byteOffset := 0 }, { name := "Bits", type := 3, offset := 17, embedded := false, tag := "", pkgPath := "", byteOffset := 24 }] : Array Field).mapM fun f => (do pure (f.offset, ← sizeOf f.type) : Sem (Nat × Nat))).run Try.prog w = .ok #[(0, 17), (17, 1)] w := fun w => by
  simp [Try.sizeOf32 w, Try.sizeOf3 w]
structure S_crawlwaylaw25_Deed where
  f_Kind : Int
  f_P : S_api_Prefix
  f_Own : Int
  deriving DecidableEq, Inhabited
def c_crawlwaylaw25_Deed : Cd S_crawlwaylaw25_Deed := ⟨20, fun x => Cd.cs (cInt .i64) x.f_Kind ++ (Cd.cs c_api_Prefix x.f_P ++ (Cd.cs (cInt .i64) x.f_Own ++ [])), fun x => by simp only [List.length_append, Cd.len, List.length_nil] <;> rfl, fun x v hv => by
  simp only [List.mem_append, List.not_mem_nil, or_false] at hv
  rcases hv with hv | hv | hv
  all_goals exact Cd.one _ _ _ hv, by decide⟩
def ok_crawlwaylaw25_Deed (x : S_crawlwaylaw25_Deed) : Prop := (fun n : Int => (Lit.int .i64 n).wf = true) x.f_Kind ∧ ok_api_Prefix x.f_P ∧ (fun n : Int => (Lit.int .i64 n).wf = true) x.f_Own
theorem c_crawlwaylaw25_Deed_f_Kind (x : S_crawlwaylaw25_Deed) : Lens (c_crawlwaylaw25_Deed.cs x) 0 (cInt .i64) x.f_Kind (fun z => c_crawlwaylaw25_Deed.cs { x with f_Kind := z }) :=
  ⟨[], Cd.cs c_api_Prefix x.f_P ++ (Cd.cs (cInt .i64) x.f_Own ++ []), by simp [c_crawlwaylaw25_Deed], by simp only [List.length_append, Cd.len, List.length_nil] <;> rfl, fun z => by simp [c_crawlwaylaw25_Deed]⟩
theorem c_crawlwaylaw25_Deed_f_P (x : S_crawlwaylaw25_Deed) : Lens (c_crawlwaylaw25_Deed.cs x) 1 c_api_Prefix x.f_P (fun z => c_crawlwaylaw25_Deed.cs { x with f_P := z }) :=
  ⟨Cd.cs (cInt .i64) x.f_Kind ++ [], Cd.cs (cInt .i64) x.f_Own ++ [], by simp [c_crawlwaylaw25_Deed], by simp only [List.length_append, Cd.len, List.length_nil] <;> rfl, fun z => by simp [c_crawlwaylaw25_Deed]⟩
theorem c_crawlwaylaw25_Deed_f_Own (x : S_crawlwaylaw25_Deed) : Lens (c_crawlwaylaw25_Deed.cs x) 19 (cInt .i64) x.f_Own (fun z => c_crawlwaylaw25_Deed.cs { x with f_Own := z }) :=
  ⟨Cd.cs (cInt .i64) x.f_Kind ++ (Cd.cs c_api_Prefix x.f_P ++ []), [], by simp [c_crawlwaylaw25_Deed], by simp only [List.length_append, Cd.len, List.length_nil] <;> rfl, fun z => by simp [c_crawlwaylaw25_Deed]⟩
theorem eq_crawlwaylaw25_Deed_48 : Eqs Try.prog 48 c_crawlwaylaw25_Deed true 4 := fun d hd x y w => by
  obtain ⟨d, rfl⟩ : ∃ e, d = e + 1 := ⟨d - 1, by omega⟩
  refine (run_eq_struct (xs := (c_crawlwaylaw25_Deed.cs x).toArray) (ys := (c_crawlwaylaw25_Deed.cs y).toArray) Try.underlying48 Try.stoodInHeld48).trans ?_
  refine Eq.trans (eqf_cons (c_crawlwaylaw25_Deed_f_Kind x) (c_crawlwaylaw25_Deed_f_Kind y) (by rfl) (by rfl) Try.isAgg3 Try.sizeOf3 (.inr rfl) (eqs_int Try.underlying3) (by omega) (eqf_cons (c_crawlwaylaw25_Deed_f_P x) (c_crawlwaylaw25_Deed_f_P y) (by rfl) (by rfl) Try.isAgg46 Try.sizeOf46 (.inl rfl) (eq_api_Prefix_46) (by omega) (eqf_cons (c_crawlwaylaw25_Deed_f_Own x) (c_crawlwaylaw25_Deed_f_Own y) (by rfl) (by rfl) Try.isAgg3 Try.sizeOf3 (.inr rfl) (eqs_int Try.underlying3) (by omega) eqf_nil))) ?_
  congr 1
  cases x; cases y
  rw [Bool.eq_iff_iff]; simp
theorem opn_crawlwaylaw25_Deed_48 : Opn Try.prog 48 c_crawlwaylaw25_Deed ok_crawlwaylaw25_Deed := fun enc w base spare held fuel cs d ps hd => by
  cases fuel with
  | zero => exact (opn_zero hd).elim
  | succ fuel =>
    obtain ⟨hlen, hf⟩ := opn_fields Try.underlying48 hd
    rw [show Try.prog.cellsOf 48 = 20 from by kernel_rfl] at hlen
    obtain ⟨d0, p0, h0⟩ : ∃ d' p', DataW.trod enc Try.prog w base spare held fuel 3 ((cs.drop 0).take (Try.prog.cellsOf 3)) = some (d', p') := hf 0 _ rfl
    obtain ⟨x0, e0, o0⟩ := (opn_int Try.underlying3) enc w base spare held fuel _ _ _ h0
    rw [show Try.prog.cellsOf 3 = 1 from by kernel_rfl] at e0
    obtain ⟨d1, p1, h1⟩ : ∃ d' p', DataW.trod enc Try.prog w base spare held fuel 46 ((cs.drop 1).take (Try.prog.cellsOf 46)) = some (d', p') := hf 1 _ rfl
    obtain ⟨x1, e1, o1⟩ := (opn_api_Prefix_46) enc w base spare held fuel _ _ _ h1
    rw [show Try.prog.cellsOf 46 = 18 from by kernel_rfl] at e1
    obtain ⟨d2, p2, h2⟩ : ∃ d' p', DataW.trod enc Try.prog w base spare held fuel 3 ((cs.drop 19).take (Try.prog.cellsOf 3)) = some (d', p') := hf 2 _ rfl
    obtain ⟨x2, e2, o2⟩ := (opn_int Try.underlying3) enc w base spare held fuel _ _ _ h2
    rw [show Try.prog.cellsOf 3 = 1 from by kernel_rfl] at e2
    refine ⟨⟨x0, x1, x2⟩, ?_, o0, o1, o2⟩
    show cs = Cd.cs (cInt .i64) x0 ++ (Cd.cs c_api_Prefix x1 ++ (Cd.cs (cInt .i64) x2 ++ []))
    rw [← e0, ← e1, ← e2]
    exact (split_cons (l := cs) (o := 0) (k := 1) (split_cons (l := cs) (o := 1) (k := 18) (split_cons (l := cs) (o := 19) (k := 1) (split_nil (l := cs) (o := 20) (by omega)))))
theorem places_crawlwaylaw25_Deed_48 : ∀ w, ((#[{ name := "Kind", type := 3, offset := 0, embedded := false, tag := "", pkgPath := "", byteOffset := 0 }, { name := "P", type := 46, offset := 1, embedded := false, tag := "", pkgPath := "", byteOffset := 8 }, { name := "Own", type := 3, offset := 19, embedded := false, tag := "", pkgPath := "", byteOffset := 40 }] : Array Field).mapM fun f => (do pure (f.offset, ← sizeOf f.type) : Sem (Nat × Nat))).run Try.prog w = .ok #[(0, 1), (1, 18), (19, 1)] w := fun w => by
  simp [Try.sizeOf3 w, Try.sizeOf46 w, Try.sizeOf3 w]
structure S_api_Entry where
  f_P : S_api_Prefix
  f_Owner : Int
  deriving DecidableEq, Inhabited
def c_api_Entry : Cd S_api_Entry := ⟨19, fun x => Cd.cs c_api_Prefix x.f_P ++ (Cd.cs (cInt .i64) x.f_Owner ++ []), fun x => by simp only [List.length_append, Cd.len, List.length_nil] <;> rfl, fun x v hv => by
  simp only [List.mem_append, List.not_mem_nil, or_false] at hv
  rcases hv with hv | hv
  all_goals exact Cd.one _ _ _ hv, by decide⟩
def ok_api_Entry (x : S_api_Entry) : Prop := ok_api_Prefix x.f_P ∧ (fun n : Int => (Lit.int .i64 n).wf = true) x.f_Owner
theorem c_api_Entry_f_P (x : S_api_Entry) : Lens (c_api_Entry.cs x) 0 c_api_Prefix x.f_P (fun z => c_api_Entry.cs { x with f_P := z }) :=
  ⟨[], Cd.cs (cInt .i64) x.f_Owner ++ [], by simp [c_api_Entry], by simp only [List.length_append, Cd.len, List.length_nil] <;> rfl, fun z => by simp [c_api_Entry]⟩
theorem c_api_Entry_f_Owner (x : S_api_Entry) : Lens (c_api_Entry.cs x) 18 (cInt .i64) x.f_Owner (fun z => c_api_Entry.cs { x with f_Owner := z }) :=
  ⟨Cd.cs c_api_Prefix x.f_P ++ [], [], by simp [c_api_Entry], by simp only [List.length_append, Cd.len, List.length_nil] <;> rfl, fun z => by simp [c_api_Entry]⟩
theorem eq_api_Entry_52 : Eqs Try.prog 52 c_api_Entry true 4 := fun d hd x y w => by
  obtain ⟨d, rfl⟩ : ∃ e, d = e + 1 := ⟨d - 1, by omega⟩
  refine (run_eq_struct (xs := (c_api_Entry.cs x).toArray) (ys := (c_api_Entry.cs y).toArray) Try.underlying52 Try.stoodInHeld52).trans ?_
  refine Eq.trans (eqf_cons (c_api_Entry_f_P x) (c_api_Entry_f_P y) (by rfl) (by rfl) Try.isAgg46 Try.sizeOf46 (.inl rfl) (eq_api_Prefix_46) (by omega) (eqf_cons (c_api_Entry_f_Owner x) (c_api_Entry_f_Owner y) (by rfl) (by rfl) Try.isAgg3 Try.sizeOf3 (.inr rfl) (eqs_int Try.underlying3) (by omega) eqf_nil)) ?_
  congr 1
  cases x; cases y
  rw [Bool.eq_iff_iff]; simp
theorem opn_api_Entry_52 : Opn Try.prog 52 c_api_Entry ok_api_Entry := fun enc w base spare held fuel cs d ps hd => by
  cases fuel with
  | zero => exact (opn_zero hd).elim
  | succ fuel =>
    obtain ⟨hlen, hf⟩ := opn_fields Try.underlying52 hd
    rw [show Try.prog.cellsOf 52 = 19 from by kernel_rfl] at hlen
    obtain ⟨d0, p0, h0⟩ : ∃ d' p', DataW.trod enc Try.prog w base spare held fuel 46 ((cs.drop 0).take (Try.prog.cellsOf 46)) = some (d', p') := hf 0 _ rfl
    obtain ⟨x0, e0, o0⟩ := (opn_api_Prefix_46) enc w base spare held fuel _ _ _ h0
    rw [show Try.prog.cellsOf 46 = 18 from by kernel_rfl] at e0
    obtain ⟨d1, p1, h1⟩ : ∃ d' p', DataW.trod enc Try.prog w base spare held fuel 3 ((cs.drop 18).take (Try.prog.cellsOf 3)) = some (d', p') := hf 1 _ rfl
    obtain ⟨x1, e1, o1⟩ := (opn_int Try.underlying3) enc w base spare held fuel _ _ _ h1
    rw [show Try.prog.cellsOf 3 = 1 from by kernel_rfl] at e1
    refine ⟨⟨x0, x1⟩, ?_, o0, o1⟩
    show cs = Cd.cs c_api_Prefix x0 ++ (Cd.cs (cInt .i64) x1 ++ [])
    rw [← e0, ← e1]
    exact (split_cons (l := cs) (o := 0) (k := 18) (split_cons (l := cs) (o := 18) (k := 1) (split_nil (l := cs) (o := 19) (by omega))))
theorem places_api_Entry_52 : ∀ w, ((#[{ name := "P", type := 46, offset := 0, embedded := false, tag := "", pkgPath := "", byteOffset := 0 }, { name := "Owner", type := 3, offset := 18, embedded := false, tag := "", pkgPath := "", byteOffset := 32 }] : Array Field).mapM fun f => (do pure (f.offset, ← sizeOf f.type) : Sem (Nat × Nat))).run Try.prog w = .ok #[(0, 18), (18, 1)] w := fun w => by
  simp [Try.sizeOf46 w, Try.sizeOf3 w]
theorem eq_crawlwaylaw25_Deed_72 : Eqs Try.prog 72 c_crawlwaylaw25_Deed true 4 := fun d hd x y w => by
  obtain ⟨d, rfl⟩ : ∃ e, d = e + 1 := ⟨d - 1, by omega⟩
  refine (run_eq_struct (xs := (c_crawlwaylaw25_Deed.cs x).toArray) (ys := (c_crawlwaylaw25_Deed.cs y).toArray) Try.underlying72 Try.stoodInHeld72).trans ?_
  refine Eq.trans (eqf_cons (c_crawlwaylaw25_Deed_f_Kind x) (c_crawlwaylaw25_Deed_f_Kind y) (by rfl) (by rfl) Try.isAgg3 Try.sizeOf3 (.inr rfl) (eqs_int Try.underlying3) (by omega) (eqf_cons (c_crawlwaylaw25_Deed_f_P x) (c_crawlwaylaw25_Deed_f_P y) (by rfl) (by rfl) Try.isAgg46 Try.sizeOf46 (.inl rfl) (eq_api_Prefix_46) (by omega) (eqf_cons (c_crawlwaylaw25_Deed_f_Own x) (c_crawlwaylaw25_Deed_f_Own y) (by rfl) (by rfl) Try.isAgg3 Try.sizeOf3 (.inr rfl) (eqs_int Try.underlying3) (by omega) eqf_nil))) ?_
  congr 1
  cases x; cases y
  rw [Bool.eq_iff_iff]; simp
theorem opn_crawlwaylaw25_Deed_72 : Opn Try.prog 72 c_crawlwaylaw25_Deed ok_crawlwaylaw25_Deed := fun enc w base spare held fuel cs d ps hd => by
  cases fuel with
  | zero => exact (opn_zero hd).elim
  | succ fuel =>
    obtain ⟨hlen, hf⟩ := opn_fields Try.underlying72 hd
    rw [show Try.prog.cellsOf 72 = 20 from by kernel_rfl] at hlen
    obtain ⟨d0, p0, h0⟩ : ∃ d' p', DataW.trod enc Try.prog w base spare held fuel 3 ((cs.drop 0).take (Try.prog.cellsOf 3)) = some (d', p') := hf 0 _ rfl
    obtain ⟨x0, e0, o0⟩ := (opn_int Try.underlying3) enc w base spare held fuel _ _ _ h0
    rw [show Try.prog.cellsOf 3 = 1 from by kernel_rfl] at e0
    obtain ⟨d1, p1, h1⟩ : ∃ d' p', DataW.trod enc Try.prog w base spare held fuel 46 ((cs.drop 1).take (Try.prog.cellsOf 46)) = some (d', p') := hf 1 _ rfl
    obtain ⟨x1, e1, o1⟩ := (opn_api_Prefix_46) enc w base spare held fuel _ _ _ h1
    rw [show Try.prog.cellsOf 46 = 18 from by kernel_rfl] at e1
    obtain ⟨d2, p2, h2⟩ : ∃ d' p', DataW.trod enc Try.prog w base spare held fuel 3 ((cs.drop 19).take (Try.prog.cellsOf 3)) = some (d', p') := hf 2 _ rfl
    obtain ⟨x2, e2, o2⟩ := (opn_int Try.underlying3) enc w base spare held fuel _ _ _ h2
    rw [show Try.prog.cellsOf 3 = 1 from by kernel_rfl] at e2
    refine ⟨⟨x0, x1, x2⟩, ?_, o0, o1, o2⟩
    show cs = Cd.cs (cInt .i64) x0 ++ (Cd.cs c_api_Prefix x1 ++ (Cd.cs (cInt .i64) x2 ++ []))
    rw [← e0, ← e1, ← e2]
    exact (split_cons (l := cs) (o := 0) (k := 1) (split_cons (l := cs) (o := 1) (k := 18) (split_cons (l := cs) (o := 19) (k := 1) (split_nil (l := cs) (o := 20) (by omega)))))
theorem places_crawlwaylaw25_Deed_72 : ∀ w, ((#[{ name := "Kind", type := 3, offset := 0, embedded := false, tag := "", pkgPath := "", byteOffset := 0 }, { name := "P", type := 46, offset := 1, embedded := false, tag := "", pkgPath := "", byteOffset := 8 }, { name := "Own", type := 3, offset := 19, embedded := false, tag := "", pkgPath := "", byteOffset := 40 }] : Array Field).mapM fun f => (do pure (f.offset, ← sizeOf f.type) : Sem (Nat × Nat))).run Try.prog w = .ok #[(0, 1), (1, 18), (19, 1)] w := fun w => by
  simp [Try.sizeOf3 w, Try.sizeOf46 w, Try.sizeOf3 w]
structure S_trie_node where
  f_next : (Vector (Option Nat) 2)
  f_is : Bool
  f_owner : Int
  deriving DecidableEq, Inhabited
def c_trie_node (gh : Nat → Nat) : Cd S_trie_node := ⟨4, fun x => Cd.cs (cVec (cPtr gh) 2 (by decide)) x.f_next ++ (Cd.cs cBool x.f_is ++ (Cd.cs (cInt .i64) x.f_owner ++ [])), fun x => by simp only [List.length_append, Cd.len, List.length_nil] <;> rfl, fun x v hv => by
  simp only [List.mem_append, List.not_mem_nil, or_false] at hv
  rcases hv with hv | hv | hv
  all_goals exact Cd.one _ _ _ hv, by decide⟩
theorem c_trie_node_f_next (gh : Nat → Nat) (x : S_trie_node) : Lens ((c_trie_node gh).cs x) 0 (cVec (cPtr gh) 2 (by decide)) x.f_next (fun z => (c_trie_node gh).cs { x with f_next := z }) :=
  ⟨[], Cd.cs cBool x.f_is ++ (Cd.cs (cInt .i64) x.f_owner ++ []), by simp [c_trie_node], by simp only [List.length_append, Cd.len, List.length_nil] <;> rfl, fun z => by simp [c_trie_node]⟩
theorem c_trie_node_f_is (gh : Nat → Nat) (x : S_trie_node) : Lens ((c_trie_node gh).cs x) 2 cBool x.f_is (fun z => (c_trie_node gh).cs { x with f_is := z }) :=
  ⟨Cd.cs (cVec (cPtr gh) 2 (by decide)) x.f_next ++ [], Cd.cs (cInt .i64) x.f_owner ++ [], by simp [c_trie_node], by simp only [List.length_append, Cd.len, List.length_nil] <;> rfl, fun z => by simp [c_trie_node]⟩
theorem c_trie_node_f_owner (gh : Nat → Nat) (x : S_trie_node) : Lens ((c_trie_node gh).cs x) 3 (cInt .i64) x.f_owner (fun z => (c_trie_node gh).cs { x with f_owner := z }) :=
  ⟨Cd.cs (cVec (cPtr gh) 2 (by decide)) x.f_next ++ (Cd.cs cBool x.f_is ++ []), [], by simp [c_trie_node], by simp only [List.length_append, Cd.len, List.length_nil] <;> rfl, fun z => by simp [c_trie_node]⟩
abbrev p_trie_node (x : S_trie_node) : List (Option Nat) := x.f_next.toList
theorem c_trie_node_ext (g g' : Nat → Nat) (x : S_trie_node) (h : ∀ i, some i ∈ p_trie_node x → g' i = g i) : (c_trie_node g).cs x = (c_trie_node g').cs x := by
  show Cd.cs (cVec (cPtr g) 2 (by decide)) x.f_next ++ (Cd.cs cBool x.f_is ++ (Cd.cs (cInt .i64) x.f_owner ++ [])) = Cd.cs (cVec (cPtr g') 2 (by decide)) x.f_next ++ (Cd.cs cBool x.f_is ++ (Cd.cs (cInt .i64) x.f_owner ++ []))
  rw [(cvec_same (g' := g') (v := x.f_next) fun i e => h i (by first | exact e | exact List.mem_append_left _ e | exact List.mem_append_right _ e))]
theorem places_trie_node_103 : ∀ w, ((#[{ name := "next", type := 101, offset := 0, embedded := false, tag := "", pkgPath := "crawlway/trie", byteOffset := 0 }, { name := "is", type := 4, offset := 2, embedded := false, tag := "", pkgPath := "crawlway/trie", byteOffset := 16 }, { name := "owner", type := 3, offset := 3, embedded := false, tag := "", pkgPath := "crawlway/trie", byteOffset := 24 }] : Array Field).mapM fun f => (do pure (f.offset, ← sizeOf f.type) : Sem (Nat × Nat))).run Try.prog w = .ok #[(0, 2), (2, 1), (3, 1)] w := fun w => by
  simp [Try.sizeOf101 w, Try.sizeOf4 w, Try.sizeOf3 w]
structure S_trie_Trie where
  f_root : (Option Nat)
  f_family : Int
  f_many : Int
  deriving DecidableEq, Inhabited
def c_trie_Trie (gh : Nat → Nat) : Cd S_trie_Trie := ⟨3, fun x => Cd.cs (cPtr gh) x.f_root ++ (Cd.cs (cInt .i64) x.f_family ++ (Cd.cs (cInt .i64) x.f_many ++ [])), fun x => by simp only [List.length_append, Cd.len, List.length_nil] <;> rfl, fun x v hv => by
  simp only [List.mem_append, List.not_mem_nil, or_false] at hv
  rcases hv with hv | hv | hv
  all_goals exact Cd.one _ _ _ hv, by decide⟩
theorem c_trie_Trie_f_root (gh : Nat → Nat) (x : S_trie_Trie) : Lens ((c_trie_Trie gh).cs x) 0 (cPtr gh) x.f_root (fun z => (c_trie_Trie gh).cs { x with f_root := z }) :=
  ⟨[], Cd.cs (cInt .i64) x.f_family ++ (Cd.cs (cInt .i64) x.f_many ++ []), by simp [c_trie_Trie], by simp only [List.length_append, Cd.len, List.length_nil] <;> rfl, fun z => by simp [c_trie_Trie]⟩
theorem c_trie_Trie_f_family (gh : Nat → Nat) (x : S_trie_Trie) : Lens ((c_trie_Trie gh).cs x) 1 (cInt .i64) x.f_family (fun z => (c_trie_Trie gh).cs { x with f_family := z }) :=
  ⟨Cd.cs (cPtr gh) x.f_root ++ [], Cd.cs (cInt .i64) x.f_many ++ [], by simp [c_trie_Trie], by simp only [List.length_append, Cd.len, List.length_nil] <;> rfl, fun z => by simp [c_trie_Trie]⟩
theorem c_trie_Trie_f_many (gh : Nat → Nat) (x : S_trie_Trie) : Lens ((c_trie_Trie gh).cs x) 2 (cInt .i64) x.f_many (fun z => (c_trie_Trie gh).cs { x with f_many := z }) :=
  ⟨Cd.cs (cPtr gh) x.f_root ++ (Cd.cs (cInt .i64) x.f_family ++ []), [], by simp [c_trie_Trie], by simp only [List.length_append, Cd.len, List.length_nil] <;> rfl, fun z => by simp [c_trie_Trie]⟩
abbrev p_trie_Trie (x : S_trie_Trie) : List (Option Nat) := [x.f_root]
theorem c_trie_Trie_ext (g g' : Nat → Nat) (x : S_trie_Trie) (h : ∀ i, some i ∈ p_trie_Trie x → g' i = g i) : (c_trie_Trie g).cs x = (c_trie_Trie g').cs x := by
  show Cd.cs (cPtr g) x.f_root ++ (Cd.cs (cInt .i64) x.f_family ++ (Cd.cs (cInt .i64) x.f_many ++ [])) = Cd.cs (cPtr g') x.f_root ++ (Cd.cs (cInt .i64) x.f_family ++ (Cd.cs (cInt .i64) x.f_many ++ []))
  rw [(show Cd.cs (cPtr g) x.f_root = Cd.cs (cPtr g') x.f_root from congrArg (fun v => [v]) (pv_same fun i e => h i (by simp [p_trie_Trie, e])))]
theorem places_trie_Trie_105 : ∀ w, ((#[{ name := "root", type := 100, offset := 0, embedded := false, tag := "", pkgPath := "crawlway/trie", byteOffset := 0 }, { name := "family", type := 3, offset := 1, embedded := false, tag := "", pkgPath := "crawlway/trie", byteOffset := 8 }, { name := "many", type := 3, offset := 2, embedded := false, tag := "", pkgPath := "crawlway/trie", byteOffset := 16 }] : Array Field).mapM fun f => (do pure (f.offset, ← sizeOf f.type) : Sem (Nat × Nat))).run Try.prog w = .ok #[(0, 1), (1, 1), (2, 1)] w := fun w => by
  simp [Try.sizeOf100 w, Try.sizeOf3 w, Try.sizeOf3 w]
inductive HV where
  | trie_node (x : S_trie_node)
  | trie_Trie (x : S_trie_Trie)
  deriving DecidableEq, Inhabited
def hK : HK HV where
  ob := fun gh v o => match v with
    | .trie_node x => o = .cells (Cd.cs (c_trie_node gh) x).toArray 103 (0, 0)
    | .trie_Trie x => o = .cells (Cd.cs (c_trie_Trie gh) x).toArray 105 (0, 0)
  ptr := fun v => match v with
    | .trie_node x => p_trie_node x
    | .trie_Trie x => p_trie_Trie x
  ext := fun g g' v o h hb => by
    cases v with
    | trie_node x => exact (show o = _ from hb).trans (by rw [c_trie_node_ext g g' x h])
    | trie_Trie x => exact (show o = _ from hb).trans (by rw [c_trie_Trie_ext g g' x h])
def hn_trie_node (h : List HV) (x : Option Nat) : Option (Nat × S_trie_node) := match x with
  | none => none
  | some i => match h[i]? with
    | some (.trie_node z) => some (i, z)
    | _ => none
theorem hn_trie_node_at {h : List HV} {x : Option Nat} {t : Nat × S_trie_node} (e : hn_trie_node h x = some t) : x = some t.1 ∧ h[t.1]? = some (.trie_node t.2) := by
  unfold hn_trie_node at e
  split at e
  · cases e
  · split at e
    · next hz => cases e; exact ⟨rfl, hz⟩
    · cases e
theorem hn_trie_node_at' {h : List HV} {i : Nat} {t : Nat × S_trie_node} (e : hn_trie_node h (some i) = some t) : h[i]? = some (.trie_node t.2) := by
  obtain ⟨h1, h2⟩ := hn_trie_node_at e
  cases h1; exact h2
theorem hn_trie_node_of {h : List HV} {i : Nat} {z : S_trie_node} (e : h[i]? = some (.trie_node z)) : hn_trie_node h (some i) = some (i, z) := by
  unfold hn_trie_node; simp [e]
def hn_trie_Trie (h : List HV) (x : Option Nat) : Option (Nat × S_trie_Trie) := match x with
  | none => none
  | some i => match h[i]? with
    | some (.trie_Trie z) => some (i, z)
    | _ => none
theorem hn_trie_Trie_at {h : List HV} {x : Option Nat} {t : Nat × S_trie_Trie} (e : hn_trie_Trie h x = some t) : x = some t.1 ∧ h[t.1]? = some (.trie_Trie t.2) := by
  unfold hn_trie_Trie at e
  split at e
  · cases e
  · split at e
    · next hz => cases e; exact ⟨rfl, hz⟩
    · cases e
theorem hn_trie_Trie_at' {h : List HV} {i : Nat} {t : Nat × S_trie_Trie} (e : hn_trie_Trie h (some i) = some t) : h[i]? = some (.trie_Trie t.2) := by
  obtain ⟨h1, h2⟩ := hn_trie_Trie_at e
  cases h1; exact h2
theorem hn_trie_Trie_of {h : List HV} {i : Nat} {z : S_trie_Trie} (e : h[i]? = some (.trie_Trie z)) : hn_trie_Trie h (some i) = some (i, z) := by
  unfold hn_trie_Trie; simp [e]
end Go.Proofs.Ythccncpephpdjaa
