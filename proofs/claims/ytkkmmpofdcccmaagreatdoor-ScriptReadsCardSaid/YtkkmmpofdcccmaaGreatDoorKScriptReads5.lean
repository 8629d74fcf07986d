/- Texts of this claim, those in one that belong together; printed by a program of this project. -/
import Derived.Lib.SplitLaws
import Derived.Test.YtkkmmpofdcccmaaGreatDoorProg
import Derived.Lib.IndexBytes
import Derived.Test.YtkkmmpofdcccmaaGreatDoorKScriptReads4
set_option linter.unusedVariables false
set_option linter.unusedSimpArgs false
namespace Go.Proofs.YtkkmmpofdcccmaaGreatDoor.Scr
open E Go.RowKit
open Adr AdrT
theorem seq_dec(a b:ByteArray):seq a b=decide (a=b):=by rw [Bool.eq_iff_iff,seq_iff,decide_eq_true_eq]
def U(s:ByteArray):List Int×Int:=if s=(⟨#[45]⟩:ByteArray) then ([],0) else if s=(⟨#[]⟩:ByteArray) then ([],5) else match Hex.dec s with
 | some k=>(ob k,0)
 | none=>([],5)
theorem unword_code(s:ByteArray)(hs:s.size<1000000):script_unword s=some (U s):=by
 unfold script_unword U
 rw [seq_dec,seq_dec,Hex.decode_eq s hs]
 by_cases h1:s=(⟨#[45]⟩:ByteArray)
 ·rw [if_pos (decide_eq_true h1),if_pos h1]
 ·rw [if_neg (by simpa using h1),if_neg h1]
  by_cases h2:s=(⟨#[]⟩:ByteArray)
  ·rw [if_pos (decide_eq_true h2),if_pos h2]
  ·rw [if_neg (by simpa using h2),if_neg h2,bindM_some];rfl
theorem dec_empty{s:ByteArray}(h:Hex.dec s=some []):s=(⟨#[]⟩:ByteArray):=by
 rw [←Hex.enc_dec s [] h];rfl
theorem bytes_ref(s:ByteArray)(hs:s.size<1000000):crawlwayref50_bytes s=some (U s):=by
 unfold crawlwayref50_bytes U
 rw [seq_dec,Hex.refDecode_eq s hs]
 by_cases h1:s=(⟨#[45]⟩:ByteArray)
 ·rw [if_pos (decide_eq_true h1),if_pos h1]
 ·rw [if_neg (by simpa using h1),if_neg h1,bindM_some]
  by_cases h2:s=(⟨#[]⟩:ByteArray)
  ·rw [if_pos h2]
   subst h2
   have:Hex.dec (⟨#[]⟩:ByteArray)=some []:=by decide +kernel
   rw [this];rfl
  ·rw [if_neg h2]
   cases hd:Hex.dec s with
   | none=>rfl
   | some k =>
    cases k with
    | nil=>exact absurd (dec_empty hd) h2
    | cons a r=>rfl
abbrev n1:ByteArray:=⟨#[115,101,116]⟩
abbrev n2:ByteArray:=⟨#[108,111,97,100]⟩
abbrev n3:ByteArray:=⟨#[111,117,116]⟩
abbrev n4:ByteArray:=⟨#[105,110]⟩
abbrev n5:ByteArray:=⟨#[105,110,115,116,97,108,108]⟩
abbrev n6:ByteArray:=⟨#[102,111,114,103,101,116]⟩
def knd(s:ByteArray):Int:=if n1=s then 1 else if n2=s then 2 else if n3=s then 3 else if n4=s then 4 else if n5=s then 5 else if n6=s then 6 else 0
theorem kind_code(s:ByteArray):script_kind s=some (knd s):=by
 unfold script_kind knd
 simp only [seq_dec,decide_eq_true_eq]
 repeat' split
 all_goals first | rfl | contradiction
theorem knd_cases(s:ByteArray):knd s=0∨knd s=1∨knd s=2∨knd s=3∨knd s=4∨knd s=5∨knd s=6:=by
 unfold knd
 repeat' split
 all_goals simp
abbrev NM:List ByteArray:=[⟨#[]⟩,n1,n2,n3,n4,n5,n6]
theorem kind_step(t:List ByteArray)(ht:0<t.length)(i:Nat)(h1:1≤i)(h6:i≤6)(x:S_api_Item):crawlwayref50_Parse.l0 t (i:Int) x=crawlwayref50_Parse.l0 t ((i+1:Nat):Int) (if lget NM (i:Int)=lget t 0 then { x with f_Kind:=(i:Int) } else x):=by
 rw [crawlwayref50_Parse.l0.eq_def,if_pos (by rw [decide_eq_true_eq];omega),if_pos (by show (0:Int)≤(i:Int)∧(i:Int)<7;omega),if_pos (by omega),wr_i i (by omega),seq_dec]
 by_cases h:lget NM (i:Int)=lget t 0
 ·rw [if_pos (decide_eq_true h),if_pos h]
 ·rw [if_neg (by simpa using h),if_neg h]
theorem kind_ref(t:List ByteArray)(ht:0<t.length):crawlwayref50_Parse.l0 t 1 zI=some { zI with f_Kind:=knd (lget t 0) }:=by
 rw [show (1:Int)=((1:Nat):Int) from rfl,kind_step t ht 1 (by omega) (by omega),kind_step t ht 2 (by omega) (by omega),kind_step t ht 3 (by omega) (by omega),kind_step t ht 4 (by omega) (by omega),kind_step t ht 5 (by omega) (by omega),kind_step t ht 6 (by omega) (by omega),crawlwayref50_Parse.l0.eq_def,if_neg (by decide)]
 congr 1
 show (if n6=lget t 0 then _ else if n5=lget t 0 then _ else _)=_
 generalize lget t 0=w
 unfold knd
 by_cases e1:n1=w
 ·subst e1;decide +kernel
 by_cases e2:n2=w
 ·subst e2;decide +kernel
 by_cases e3:n3=w
 ·subst e3;decide +kernel
 by_cases e4:n4=w
 ·subst e4;decide +kernel
 by_cases e5:n5=w
 ·subst e5;decide +kernel
 by_cases e6:n6=w
 ·subst e6;decide +kernel
 rw [if_neg e6,if_neg e5]
 show (if n4=w then _ else if n3=w then _ else if n2=w then _ else if n1=w then _ else _)=_
 rw [if_neg e4,if_neg e3,if_neg e2,if_neg e1,if_neg e1,if_neg e2,if_neg e3,if_neg e4,if_neg e5,if_neg e6];rfl
def K(s:ByteArray):Vector Int 32×Int:=Key.par (match Hex.dec s with | some k=>(ob k,0) | none=>([],5))
theorem key_code(s:ByteArray)(hs:s.size<1000000):keys_ParseHex s=some (K s):=by
 unfold keys_ParseHex K;rw [Hex.decode_eq s hs,bindM_some];exact Key.parse_of _ Key.keysOf_eq
theorem key_ref(s:ByteArray)(hs:s.size<1000000):crawlwayref07_ParseHex s=some (K s):=by
 unfold crawlwayref07_ParseHex K;rw [Hex.refDecode_eq s hs,bindM_some];exact Key.parse_ref _
def D(s:ByteArray)(m:Nat):Int×Int:=iiOf (rdU s.data.toList m)
theorem dec_code(s:ByteArray)(hs:s.size<1000000)(m:Nat)(hm:m<18446744073709551616):decimal_Read s (m:Int)=some (D s m):=read_code s m (by omega) hm
theorem dec_ref(s:ByteArray)(hs:s.size<1000000)(m:Nat)(hm:m<18446744073709551616):crawlwayref03_Read s (m:Int)=some (D s m):=read_ref s m (by omega) hm
def H(s:ByteArray):S_api_Endpoint×Int:=Host.endP s.data.toList
theorem host_code(s:ByteArray)(hs:s.size<100000):hostport_Parse s=some (H s):=by
 have h:=Host.host_parse s.data.toList (by rw [size_toList];exact hs)
 rw [←eq_bs s] at h;exact h
theorem host_ref(s:ByteArray)(hs:s.size<100000):crawlwayref12_Parse s=some (H s):=by
 have h:=Host.ref_parse12 s.data.toList (by rw [size_toList];exact hs)
 rw [←eq_bs s] at h;exact h
def out{α:Type}(u:α×Int)(f:α→S_api_Item×Int):S_api_Item×Int:=if u.2=0 then f u.1 else (zI,u.2)
def ans(x:S_api_Item)(s:ByteArray):S_api_Item×Int:=if s=(⟨#[33]⟩:ByteArray) then (x,0) else out (U s) fun r=>({ x with f_Ok:=true,f_Result:=r },0)
def M32:Nat:=4294967295
def M64:Nat:=18446744073709551615
def pB(t:List ByteArray):S_api_Item×Int :=
 if knd (lget t 0)=1 then (if t.length=2 then out (U (lget t 1)) fun b=>({ zI with f_Kind:=1,f_Bytes:=b },0) else (zI,5))
 else if knd (lget t 0)=2 then (if t.length=2 then out (U (lget t 1)) fun b=>({ zI with f_Kind:=2,f_Bytes:=b },0) else (zI,5))
 else if knd (lget t 0)=3 then (if t.length=3 then out (U (lget t 1)) fun b=>ans { zI with f_Kind:=3,f_Bytes:=b } (lget t 2) else (zI,5))
 else if knd (lget t 0)=4 then (if t.length=4 then out (H (lget t 1)) fun e=>out (U (lget t 2)) fun b=>ans { zI with f_Kind:=4,f_From:=e,f_Bytes:=b } (lget t 3) else (zI,5))
 else if knd (lget t 0)=5 then (if t.length=5 then out (K (lget t 1)) fun v=>out (D (lget t 2) M32) fun a=>out (D (lget t 3) M32) fun b=>out (D (lget t 4) M64) fun c=>({ zI with f_Kind:=5,f_Key:=v,f_Local:=wr .u32 a,f_Remote:=wr .u32 b,f_Next:=c },0) else (zI,5))
 else if knd (lget t 0)=6 then (if t.length=2 then out (D (lget t 1) M32) fun a=>({ zI with f_Kind:=6,f_Local:=wr .u32 a },0) else (zI,5))
 else (zI,12)
theorem out_code{α:Type}{u:α×Int}{A:Option (S_api_Item×Int)}{f:α→S_api_Item×Int}(h:u.2=0→A=some (f u.1)):(if (u.2 != 0)=true then (some (zI,u.2)) else A)=some (out u f):=by
 unfold out
 by_cases h0:u.2=0
 ·rw [if_neg (by simp [h0]),if_pos h0,h h0]
 ·rw [if_pos (by simpa using h0),if_neg h0]
theorem lget_sz{t:List ByteArray}(hs:∀ s∈t,s.size<100000)(i:Nat)(h:i<t.length):(lget t (i:Int)).size<100000:=hs _ (lget_mem t i h)
theorem wr01:wr .i64 (0+1)=1:=by decide
theorem wr12:wr .i64 (1+1)=2:=by decide
theorem wr23:wr .i64 (2+1)=3:=by decide
theorem wr34:wr .i64 (3+1)=4:=by decide
theorem cnt{t:List ByteArray}(hn:t.length≤10000)(m:Nat)(hm:m<100):(wr .i64 ((t.length:Int)-1) != (m:Int))=!decide (t.length=m+1):=by
 have:wr .i64 ((t.length:Int)-1)=(t.length:Int)-1:=by
  by_cases h:t.length=0
  ·rw [h];decide
  ·rw [wr_i64 (by omega) (by omega)]
 rw [this,Bool.eq_iff_iff]
 simp
 omega
theorem ans_code{x:S_api_Item}{s:ByteArray}(hs:s.size<1000000):(if (seq s (⟨#[33]⟩:ByteArray))=true then (some (x,0)) else (script_unword s>>=fun u=>if (u.2 != 0)=true then (some (zI,u.2)) else (some ({ { x with f_Ok:=true } with f_Result:=u.1 },0))))=some (ans x s):=by
 unfold ans
 rw [seq_dec,unword_code s hs,bindM_some]
 by_cases h:s=(⟨#[33]⟩:ByteArray)
 ·rw [if_pos (decide_eq_true h),if_pos h]
 ·rw [if_neg (by simpa using h),if_neg h]
  exact out_code (f:=fun r=>({ x with f_Ok:=true,f_Result:=r },0)) fun _=>rfl
theorem pB1{t:List ByteArray}(h:knd (lget t 0)=1):pB t=if t.length=2 then out (U (lget t 1)) fun b=>({ zI with f_Kind:=1,f_Bytes:=b },0) else (zI,5):=by
 unfold pB;rw [h];rw [if_pos rfl]
theorem pB2{t:List ByteArray}(h:knd (lget t 0)=2):pB t=if t.length=2 then out (U (lget t 1)) fun b=>({ zI with f_Kind:=2,f_Bytes:=b },0) else (zI,5):=by
 unfold pB;rw [h];rw [if_neg (by decide)];rw [if_pos rfl]
theorem pB3{t:List ByteArray}(h:knd (lget t 0)=3):pB t=if t.length=3 then out (U (lget t 1)) fun b=>ans { zI with f_Kind:=3,f_Bytes:=b } (lget t 2) else (zI,5):=by
 unfold pB;rw [h];rw [if_neg (by decide)];rw [if_neg (by decide)];rw [if_pos rfl]
theorem pB4{t:List ByteArray}(h:knd (lget t 0)=4):pB t=if t.length=4 then out (H (lget t 1)) fun e=>out (U (lget t 2)) fun b=>ans { zI with f_Kind:=4,f_From:=e,f_Bytes:=b } (lget t 3) else (zI,5):=by
 unfold pB;rw [h];rw [if_neg (by decide)];rw [if_neg (by decide)];rw [if_neg (by decide)];rw [if_pos rfl]
theorem pB5{t:List ByteArray}(h:knd (lget t 0)=5):pB t=if t.length=5 then out (K (lget t 1)) fun v=>out (D (lget t 2) M32) fun a=>out (D (lget t 3) M32) fun b=>out (D (lget t 4) M64) fun c=>({ zI with f_Kind:=5,f_Key:=v,f_Local:=wr .u32 a,f_Remote:=wr .u32 b,f_Next:=c },0) else (zI,5):=by
 unfold pB;rw [h];rw [if_neg (by decide)];rw [if_neg (by decide)];rw [if_neg (by decide)];rw [if_neg (by decide)];rw [if_pos rfl]
theorem pB6{t:List ByteArray}(h:knd (lget t 0)=6):pB t=if t.length=2 then out (D (lget t 1) M32) fun a=>({ zI with f_Kind:=6,f_Local:=wr .u32 a },0) else (zI,5):=by
 unfold pB;rw [h];rw [if_neg (by decide)];rw [if_neg (by decide)];rw [if_neg (by decide)];rw [if_neg (by decide)];rw [if_neg (by decide)];rw [if_pos rfl]
theorem pB0{t:List ByteArray}(h:knd (lget t 0)=0):pB t=(zI,12):=by
 unfold pB;rw [h];rfl
theorem parse_code(s:ByteArray)(t:List ByteArray)(hp:lines_Parts s 32=some t)(ht:0<t.length)(hn:t.length≤10000)(hs:∀ s∈t,s.size<100000):script_Parse s=some (pB t):=by
 have sz:=fun i h=>lget_sz hs i h
 unfold script_Parse
 rw [if_pos (by decide),show bt (⟨#[32]⟩:ByteArray) 0=32 from by decide +kernel,hp,bindM_some,if_pos (by omega),kind_code,bindM_some]
 have c1:=cnt hn 1 (by omega)
 have c2:=cnt hn 2 (by omega)
 have c3:=cnt hn 3 (by omega)
 have c4:=cnt hn 4 (by omega)
 rcases knd_cases (lget t 0) with h | h | h | h | h | h | h
 ·rw [pB0 h,h];rfl
 ·rw [pB1 h,h,if_pos (by rfl)]
  show (if (wr .i64 ((t.length:Int)-1) != ((1:Nat):Int))=true then _ else _)=_
  rw [c1]
  by_cases hl:t.length=2
  ·rw [if_neg (by simp [hl]),if_pos hl,wr01,if_pos (by omega),unword_code _ (by have:=sz 1 (by omega);exact Nat.lt_of_lt_of_le this (by omega)),bindM_some]
   exact out_code fun _=>rfl
  ·rw [if_pos (by simp;omega),if_neg hl];rfl
 ·rw [pB2 h,h,if_neg (by decide),if_pos (by rfl)]
  show (if (wr .i64 ((t.length:Int)-1) != ((1:Nat):Int))=true then _ else _)=_
  rw [c1]
  by_cases hl:t.length=2
  ·rw [if_neg (by simp [hl]),if_pos hl,wr01,if_pos (by omega),unword_code _ (by have:=sz 1 (by omega);exact Nat.lt_of_lt_of_le this (by omega)),bindM_some]
   exact out_code fun _=>rfl
  ·rw [if_pos (by simp;omega),if_neg hl];rfl
 ·rw [pB3 h,h,if_neg (by decide),if_neg (by decide),if_pos (by rfl)]
  show (if (wr .i64 ((t.length:Int)-1) != ((2:Nat):Int))=true then _ else _)=_
  rw [c2]
  by_cases hl:t.length=3
  ·rw [if_neg (by simp [hl]),if_pos hl,wr01,wr12,if_pos (by omega),unword_code _ (by have:=sz 1 (by omega);exact Nat.lt_of_lt_of_le this (by omega)),bindM_some]
   refine out_code fun _=>?_
   rw [if_pos (by omega)]
   exact ans_code (by have:=sz 2 (by omega);exact Nat.lt_of_lt_of_le this (by omega))
  ·rw [if_pos (by simp;omega),if_neg hl];rfl
 ·rw [pB4 h,h,if_neg (by decide),if_neg (by decide),if_neg (by decide),if_pos (by rfl)]
  show (if (wr .i64 ((t.length:Int)-1) != ((3:Nat):Int))=true then _ else _)=_
  rw [c3]
  by_cases hl:t.length=4
  ·rw [if_neg (by simp [hl]),if_pos hl,wr01,wr12,wr23,if_pos (by omega),host_code (lget t 1) (sz 1 (by omega)),bindM_some]
   refine out_code fun _=>?_
   rw [if_pos (by omega),unword_code _ (by have:=sz 2 (by omega);exact Nat.lt_of_lt_of_le this (by omega)),bindM_some]
   refine out_code fun _=>?_
   rw [if_pos (by omega)]
   exact ans_code (by have:=sz 3 (by omega);exact Nat.lt_of_lt_of_le this (by omega))
  ·rw [if_pos (by simp;omega),if_neg hl];rfl
 ·rw [pB5 h,h,if_neg (by decide),if_neg (by decide),if_neg (by decide),if_neg (by decide),if_pos (by rfl)]
  show (if (wr .i64 ((t.length:Int)-1) != ((4:Nat):Int))=true then _ else _)=_
  rw [c4]
  have d32:=fun (i:Nat) (h:i<t.length)=>dec_code (lget t (i:Int)) (Nat.lt_of_lt_of_le (sz i h) (by omega)) M32 (by decide)
  have d64:=fun (i:Nat) (h:i<t.length)=>dec_code (lget t (i:Int)) (Nat.lt_of_lt_of_le (sz i h) (by omega)) M64 (by decide)
  by_cases hl:t.length=5
  ·rw [if_neg (by simp [hl]),if_pos hl,wr01,wr12,wr23,wr34,if_pos (by omega),key_code _ (by have:=sz 1 (by omega);exact Nat.lt_of_lt_of_le this (by omega)),bindM_some]
   refine out_code fun _=>?_
   have e2:=d32 2 (by omega)
   have e3:=d32 3 (by omega)
   have e4:=d64 4 (by omega)
   rw [if_pos (by omega)]
   show (decimal_Read (lget t ((2:Nat):Int)) (M32:Int)>>=_)=_
   rw [e2,bindM_some]
   refine out_code fun _=>?_
   rw [if_pos (by omega)]
   show (decimal_Read (lget t ((3:Nat):Int)) (M32:Int)>>=_)=_
   rw [e3,bindM_some]
   refine out_code fun _=>?_
   rw [if_pos (by omega)]
   show (decimal_Read (lget t ((4:Nat):Int)) (M64:Int)>>=_)=_
   rw [e4,bindM_some]
   exact out_code fun _=>rfl
  ·rw [if_pos (by simp;omega),if_neg hl];rfl
 ·rw [pB6 h,h,if_neg (by decide),if_neg (by decide),if_neg (by decide),if_neg (by decide),if_neg (by decide),if_pos (by rfl)]
  show (if (wr .i64 ((t.length:Int)-1) != ((1:Nat):Int))=true then _ else _)=_
  rw [c1]
  have d32:=fun (i:Nat) (h:i<t.length)=>dec_code (lget t (i:Int)) (Nat.lt_of_lt_of_le (sz i h) (by omega)) M32 (by decide)
  by_cases hl:t.length=2
  ·rw [if_neg (by simp [hl]),if_pos hl,wr01,if_pos (by omega)]
   have e1:=d32 1 (by omega)
   show (decimal_Read (lget t ((1:Nat):Int)) (M32:Int)>>=_)=_
   rw [e1,bindM_some]
   exact out_code fun _=>rfl
  ·rw [if_pos (by simp;omega),if_neg hl];rfl
theorem take_step(t:List ByteArray)(hn:t.length≤10000)(i:Nat)(h1:1≤i)(hi:i<t.length)(x:S_api_Item)(P:S_api_Item×Int)(hP:crawlwayref50_take x ((i-1:Nat):Int) (lget t (i:Int))=some P) :
  crawlwayref50_Parse.l1 t (i:Int) x=if P.2=0 then crawlwayref50_Parse.l1 t ((i+1:Nat):Int) P.1 else some (.ret (zI,P.2)):=by
 have hw:wr .i64 ((i:Int)-1)=((i-1:Nat):Int):=by rw [wr_i64 (by omega) (by omega)];omega
 rw [crawlwayref50_Parse.l1.eq_def,if_pos (by rw [decide_eq_true_eq];omega),if_pos (by omega),hw,hP,bindM_some,wr_i i (by omega)]
 by_cases h:P.2=0
 ·rw [if_neg (by simp [h]),if_pos h]
 ·rw [if_pos (by simpa using h),if_neg h];rfl
theorem take_end(t:List ByteArray)(x:S_api_Item):crawlwayref50_Parse.l1 t ((t.length:Nat):Int) x=some (.nx x):=by
 rw [crawlwayref50_Parse.l1.eq_def,if_neg (by rw [decide_eq_true_eq];omega)]
def fin(q:Option (Ctl (S_api_Item×Int) S_api_Item)):Option (S_api_Item×Int):=q>>=fun q=>match q with | .ret r'=>some r' | .nx x=>some (x,0)
theorem fin_step{t:List ByteArray}(hn:t.length≤10000){i:Nat}(h1:1≤i)(hi:i<t.length){x:S_api_Item}{α:Type}{u:α×Int}{X:S_api_Item}{f:α→S_api_Item×Int}(hP:crawlwayref50_take x ((i-1:Nat):Int) (lget t (i:Int))=some (X,u.2))(hf:u.2=0→fin (crawlwayref50_Parse.l1 t ((i+1:Nat):Int) X)=some (f u.1)) :
  fin (crawlwayref50_Parse.l1 t (i:Int) x)=some (out u f):=by
 rw [take_step t hn i h1 hi x _ hP]
 unfold out
 by_cases h:u.2=0
 ·rw [if_pos h,if_pos h];exact hf h
 ·rw [if_neg h,if_neg h];rfl
theorem fin_end{t:List ByteArray}{i:Nat}(h:t.length=i)(x:S_api_Item):fin (crawlwayref50_Parse.l1 t (i:Int) x)=some (x,0):=by
 rw [←h,take_end];rfl
theorem parse_ref(s:ByteArray)(t:List ByteArray)(hp:crawlwayref06_Parts s 32=some t)(ht:0<t.length)(hn:t.length≤10000)(hs:∀ s∈t,s.size<100000):crawlwayref50_Parse s=some (pB t):=by
 have sz:=fun (i:Nat) (h:i<t.length)=>lget_sz hs i h
 have bt:=fun (i:Nat) (h:i<t.length)=>bytes_ref (lget t (i:Int)) (Nat.lt_of_lt_of_le (sz i h) (by omega))
 have d32:=fun (i:Nat) (h:i<t.length)=>dec_ref (lget t (i:Int)) (Nat.lt_of_lt_of_le (sz i h) (by omega)) M32 (by decide)
 have d64:=fun (i:Nat) (h:i<t.length)=>dec_ref (lget t (i:Int)) (Nat.lt_of_lt_of_le (sz i h) (by omega)) M64 (by decide)
 have t123:∀ (x:S_api_Item),(x.f_Kind=1∨x.f_Kind=2∨x.f_Kind=3)→∀ (j:Nat) (h:j<t.length),crawlwayref50_take x 0 (lget t (j:Int))=some ({ x with f_Bytes:=(U (lget t (j:Int))).1 },(U (lget t (j:Int))).2):=fun x hx j h=>by
  unfold crawlwayref50_take
  rw [bt j h]
  rcases hx with e | e | e<;>simp [e]
 have tans:∀ (x:S_api_Item) (k:Int),(x.f_Kind=3∧k=1∨x.f_Kind=4∧k=2)→∀ (j:Nat) (h:j<t.length),crawlwayref50_take x k (lget t (j:Int))=some (if lget t (j:Int)=(⟨#[33]⟩:ByteArray) then (x,0) else ({ x with f_Ok:=true,f_Result:=(U (lget t (j:Int))).1 },(U (lget t (j:Int))).2)):=fun x k hx j h=>by
  unfold crawlwayref50_take
  rw [bt j h,seq_dec]
  have w1:¬ wr .i64 (1:Int)=0:=by decide
  rcases hx with ⟨e,rfl⟩ | ⟨e,rfl⟩
  ·by_cases q:lget t (j:Int)=(⟨#[33]⟩:ByteArray)
   ·simp [e,q]
   ·simp [e,q]
  ·by_cases q:lget t (j:Int)=(⟨#[33]⟩:ByteArray)
   ·simp [e,q,w1]
   ·simp [e,q,w1]
 have fans:∀ (x:S_api_Item) (j:Nat),1≤j→(x.f_Kind=3∧j=2∨x.f_Kind=4∧j=3)→t.length=j+1→fin (crawlwayref50_Parse.l1 t (j:Int) x)=some (ans x (lget t (j:Int))):=fun x j h1 hx hl=>by
  have ht:=tans x ((j-1:Nat):Int) (by rcases hx with ⟨e,rfl⟩ | ⟨e,rfl⟩;exact .inl ⟨e,rfl⟩;exact .inr ⟨e,rfl⟩) j (by omega)
  rw [take_step t hn j h1 (by omega) x _ ht]
  unfold ans
  by_cases q:lget t (j:Int)=(⟨#[33]⟩:ByteArray)
  ·rw [if_pos q,if_pos q,if_pos rfl];exact fin_end hl _
  ·rw [if_neg q,if_neg q]
   unfold out
   by_cases h0:(U (lget t (j:Int))).2=0
   ·rw [if_pos h0,if_pos h0];exact fin_end hl _
   ·rw [if_neg h0,if_neg h0];rfl
 unfold crawlwayref50_Parse
 rw [hp,bindM_some]
 show (crawlwayref50_Parse.l0 t 1 zI>>=_)=_
 rw [kind_ref t ht,bindM_some]
 have many:∀ (n:Nat),n<100→((t.length:Int) != (n:Int))=!decide (t.length=n):=fun n hn=>by
  rw [Bool.eq_iff_iff];simp;omega
 show (if (knd (lget t 0)==0)=true then (some ({ zI with f_Kind:=knd (lget t 0) },12)) else (if (0:Int)≤knd (lget t 0)∧knd (lget t 0)<7 then if ((t.length:Int) != lget ([0,2,2,3,4,5,2]:List Int) (knd (lget t 0)))=true then (some (zI,5)) else fin (crawlwayref50_Parse.l1 t ((1:Nat):Int) { zI with f_Kind:=knd (lget t 0) }) else none))=_
 rcases knd_cases (lget t 0) with h | h | h | h | h | h | h
 ·rw [pB0 h,h,if_pos (by rfl)];rfl
 ·rw [pB1 h,h,if_neg (by decide),if_pos (by decide)]
  show (if ((t.length:Int) != ((2:Nat):Int))=true then _ else _)=_
  rw [many 2 (by omega)]
  by_cases hl:t.length=2
  ·rw [if_neg (by simp [hl]),if_pos hl]
   exact fin_step hn (by omega) (by omega) (t123 _ (.inl rfl) 1 (by omega)) fun _=>fin_end hl _
  ·rw [if_pos (by simp [hl]),if_neg hl]
 ·rw [pB2 h,h,if_neg (by decide),if_pos (by decide)]
  show (if ((t.length:Int) != ((2:Nat):Int))=true then _ else _)=_
  rw [many 2 (by omega)]
  by_cases hl:t.length=2
  ·rw [if_neg (by simp [hl]),if_pos hl]
   exact fin_step hn (by omega) (by omega) (t123 _ (.inr (.inl rfl)) 1 (by omega)) fun _=>fin_end hl _
  ·rw [if_pos (by simp [hl]),if_neg hl]
 ·rw [pB3 h,h,if_neg (by decide),if_pos (by decide)]
  show (if ((t.length:Int) != ((3:Nat):Int))=true then _ else _)=_
  rw [many 3 (by omega)]
  by_cases hl:t.length=3
  ·rw [if_neg (by simp [hl]),if_pos hl]
   exact fin_step hn (by omega) (by omega) (t123 _ (.inr (.inr rfl)) 1 (by omega)) fun _=>fans _ 2 (by omega) (.inl ⟨rfl,rfl⟩) hl
  ·rw [if_pos (by simp [hl]),if_neg hl]
 ·rw [pB4 h,h,if_neg (by decide),if_pos (by decide)]
  show (if ((t.length:Int) != ((4:Nat):Int))=true then _ else _)=_
  rw [many 4 (by omega)]
  by_cases hl:t.length=4
  ·rw [if_neg (by simp [hl]),if_pos hl]
   have hh:=host_ref (lget t ((1:Nat):Int)) (sz 1 (by omega))
   have e1:crawlwayref50_take { zI with f_Kind:=4 } ((1-1:Nat):Int) (lget t ((1:Nat):Int))=some ({ zI with f_Kind:=4,f_From:=(H (lget t ((1:Nat):Int))).1 },(H (lget t ((1:Nat):Int))).2):=by
    unfold crawlwayref50_take
    rw [hh];rfl
   refine fin_step hn (by omega) (by omega) e1 fun _=>?_
   have e2:∀ x:S_api_Item,x.f_Kind=4→crawlwayref50_take x ((2-1:Nat):Int) (lget t ((2:Nat):Int))=some ({ x with f_Bytes:=(U (lget t ((2:Nat):Int))).1 },(U (lget t ((2:Nat):Int))).2):=fun x e=>by
    unfold crawlwayref50_take
    rw [bt 2 (by omega)]
    have w1:wr .i64 (0:Int)=0:=by decide
    simp [e,w1]
   refine fin_step hn (by omega) (by omega) (e2 _ rfl) fun _=>?_
   exact fans _ 3 (by omega) (.inr ⟨rfl,rfl⟩) hl
  ·rw [if_pos (by simp [hl]),if_neg hl]
 ·rw [pB5 h,h,if_neg (by decide),if_pos (by decide)]
  show (if ((t.length:Int) != ((5:Nat):Int))=true then _ else _)=_
  rw [many 5 (by omega)]
  by_cases hl:t.length=5
  ·rw [if_neg (by simp [hl]),if_pos hl]
   have hk:=key_ref (lget t ((1:Nat):Int)) (by have:=sz 1 (by omega);exact Nat.lt_of_lt_of_le this (by omega))
   have g2:=d32 2 (by omega)
   have g3:=d32 3 (by omega)
   have g4:=d64 4 (by omega)
   unfold M32 at g2 g3
   unfold M64 at g4
   have e1:crawlwayref50_take { zI with f_Kind:=5 } ((1-1:Nat):Int) (lget t ((1:Nat):Int))=some ({ zI with f_Kind:=5,f_Key:=(K (lget t ((1:Nat):Int))).1 },(K (lget t ((1:Nat):Int))).2):=by
    unfold crawlwayref50_take
    rw [hk];rfl
   refine fin_step hn (by omega) (by omega) e1 fun _=>?_
   have e2:∀ x:S_api_Item,x.f_Kind=5→crawlwayref50_take x ((2-1:Nat):Int) (lget t ((2:Nat):Int))=some ({ x with f_Local:=wr .u32 (D (lget t ((2:Nat):Int)) M32).1 },(D (lget t ((2:Nat):Int)) M32).2):=fun x e=>by
    unfold crawlwayref50_take
    simp [e]
    erw [g2];rfl
   refine fin_step hn (by omega) (by omega) (e2 _ rfl) fun _=>?_
   have e3:∀ x:S_api_Item,x.f_Kind=5→crawlwayref50_take x ((3-1:Nat):Int) (lget t ((3:Nat):Int))=some ({ x with f_Remote:=wr .u32 (D (lget t ((3:Nat):Int)) M32).1 },(D (lget t ((3:Nat):Int)) M32).2):=fun x e=>by
    unfold crawlwayref50_take
    simp [e]
    erw [g3];rfl
   refine fin_step hn (by omega) (by omega) (e3 _ rfl) fun _=>?_
   have e4:∀ x:S_api_Item,x.f_Kind=5→crawlwayref50_take x ((4-1:Nat):Int) (lget t ((4:Nat):Int))=some ({ x with f_Next:=(D (lget t ((4:Nat):Int)) M64).1 },(D (lget t ((4:Nat):Int)) M64).2):=fun x e=>by
    unfold crawlwayref50_take
    simp [e]
    erw [g4];rfl
   exact fin_step hn (by omega) (by omega) (e4 _ rfl) fun _=>fin_end hl _
  ·rw [if_pos (by simp [hl]),if_neg hl]
 ·rw [pB6 h,h,if_neg (by decide),if_pos (by decide)]
  show (if ((t.length:Int) != ((2:Nat):Int))=true then _ else _)=_
  rw [many 2 (by omega)]
  by_cases hl:t.length=2
  ·rw [if_neg (by simp [hl]),if_pos hl]
   have g1:=d32 1 (by omega)
   unfold M32 at g1
   have e1:∀ x:S_api_Item,x.f_Kind=6→crawlwayref50_take x ((1-1:Nat):Int) (lget t ((1:Nat):Int))=some ({ x with f_Local:=wr .u32 (D (lget t ((1:Nat):Int)) M32).1 },(D (lget t ((1:Nat):Int)) M32).2):=fun x e=>by
    unfold crawlwayref50_take
    simp [e]
    erw [g1];rfl
   exact fin_step hn (by omega) (by omega) (e1 _ rfl) fun _=>fin_end hl _
  ·rw [if_pos (by simp [hl]),if_neg hl]
inductive Rt:S_api_Item→Prop
 | k12 (k:Int) (hk:k=1∨k=2) (b:List Int):Rt { zI with f_Kind:=k,f_Bytes:=b }
 | k3n (b:List Int):Rt { zI with f_Kind:=3,f_Bytes:=b }
 | k3y (b r:List Int):Rt { zI with f_Kind:=3,f_Bytes:=b,f_Result:=r,f_Ok:=true }
 | k4n (b:List Int) (e:S_api_Endpoint) (h:hostport_Right e=some true):Rt { zI with f_Kind:=4,f_From:=e,f_Bytes:=b }
 | k4y (b r:List Int) (e:S_api_Endpoint) (h:hostport_Right e=some true):Rt { zI with f_Kind:=4,f_From:=e,f_Bytes:=b,f_Result:=r,f_Ok:=true }
 | k5 (v:Vector Int 32) (a b c:Int):Rt { zI with f_Kind:=5,f_Key:=v,f_Local:=a,f_Remote:=b,f_Next:=c }
 | k6 (a:Int):Rt { zI with f_Kind:=6,f_Local:=a }
theorem host_right(e:S_api_Endpoint)(h:ok_api_Endpoint e):∃ b,hostport_Right e=some b∧crawlwayref12_Right e=some b:=by
 obtain ⟨V,l,n,rfl,hl,_⟩:=Host.exists_mkE e h
 exact ⟨_,Host.right_code12 hl,Host.right_ref12 hl⟩
theorem tail_ref{x y:S_api_Item}(h:smallI y):(crawlwayref50_Same y x>>=fun t=>if t=true then (if x.f_Ok=true then (some true) else (some ((x.f_Result.length:Int)==0))) else (some false))=some (decide (y=x)&&(x.f_Ok||decide (x.f_Result=[]))):=by
 rw [same_ref y x h,bindM_some]
 by_cases e:y=x
 ·rw [if_pos (decide_eq_true e),decide_eq_true e,Bool.true_and]
  cases x.f_Ok with
  | true=>rfl
  | false =>
   rw [if_neg (by simp),Bool.false_or]
   congr 1
   rw [Bool.eq_iff_iff]
   simp
 ·rw [if_neg (by simpa using e),decide_eq_false e,Bool.false_and]
theorem right_both(x:S_api_Item)(w:ok_api_Item x)(hs:smallI x):∃ b,script_Right x=some b∧crawlwayref50_Right x=some b∧(b=true→Rt x):=by
 obtain ⟨k,b,e,r,o,y,l,m,n⟩:=x
 obtain ⟨w1,w2,w3,w4,w5,w6,w7,w8,w9⟩:=w
 have nb:∀ z∈([]:List Int),(Lit.int .u8 z).wf=true:=by intro z hz;cases hz
 have wz:=ok_kind k w1
 by_cases k1:k=1∨k=2
 ·have c1:=same_code ⟨k,[],e,r,o,y,l,m,n⟩ { zI with f_Kind:=k } ⟨w1,nb,w3,w4,w5,w6,w7,w8,w9⟩ wz
  have c2:=tail_ref (x:=⟨k,b,e,r,o,y,l,m,n⟩) (y:={ zI with f_Kind:=k,f_Bytes:=b }) ⟨hs.1,Nat.zero_le _⟩
  refine ⟨decide ((⟨k,[],e,r,o,y,l,m,n⟩:S_api_Item)={ zI with f_Kind:=k }),?_,?_,fun h=>?_⟩
  ·unfold script_Right
   rcases k1 with rfl | rfl
   ·show (script_Same ⟨1,[],e,r,o,y,l,m,n⟩ { zI with f_Kind:=1 }>>=_)=_
    rw [c1,bindM_some]
   ·show (script_Same ⟨2,[],e,r,o,y,l,m,n⟩ { zI with f_Kind:=2 }>>=_)=_
    rw [c1,bindM_some]
  ·have:crawlwayref50_Right ⟨k,b,e,r,o,y,l,m,n⟩=some (decide (({ zI with f_Kind:=k,f_Bytes:=b }:S_api_Item)=⟨k,b,e,r,o,y,l,m,n⟩)&&(o||decide (r=[]))):=by
    unfold crawlwayref50_Right
    rcases k1 with rfl | rfl
    ·exact c2
    ·exact c2
   rw [this]
   congr 1
   rw [Bool.eq_iff_iff]
   simp [zI]
   grind
  ·simp only [decide_eq_true_eq,zI,S_api_Item.mk.injEq] at h
   obtain ⟨_,_,rfl,rfl,rfl,rfl,rfl,rfl,rfl⟩:=h
   exact .k12 k k1 b
 by_cases k3:k=3
 ·subst k3
  have c2:=tail_ref (x:=⟨3,b,e,r,o,y,l,m,n⟩) (y:={ zI with f_Kind:=3,f_Bytes:=b,f_Result:=r,f_Ok:=o }) hs
  have rf:crawlwayref50_Right ⟨3,b,e,r,o,y,l,m,n⟩=some (decide (({ zI with f_Kind:=3,f_Bytes:=b,f_Result:=r,f_Ok:=o }:S_api_Item)=⟨3,b,e,r,o,y,l,m,n⟩)&&(o||decide (r=[]))):=by
   unfold crawlwayref50_Right
   exact c2
  rw [rf]
  cases o with
  | true =>
   have c1:=same_code ⟨3,[],e,[],false,y,l,m,n⟩ { zI with f_Kind:=3 } ⟨w1,nb,w3,nb,trivial,w6,w7,w8,w9⟩ wz
   refine ⟨decide ((⟨3,[],e,[],false,y,l,m,n⟩:S_api_Item)={ zI with f_Kind:=3 }),?_,?_,fun h=>?_⟩
   ·unfold script_Right
    show (script_Same ⟨3,[],e,[],false,y,l,m,n⟩ { zI with f_Kind:=3 }>>=_)=_
    rw [c1,bindM_some]
   ·congr 1
    rw [Bool.eq_iff_iff]
    simp [zI]
    grind
   ·simp only [decide_eq_true_eq,zI,S_api_Item.mk.injEq] at h
    obtain ⟨_,_,rfl,_,_,rfl,rfl,rfl,rfl⟩:=h
    exact .k3y b r
  | false =>
   have c1:=same_code ⟨3,[],e,r,false,y,l,m,n⟩ { zI with f_Kind:=3 } ⟨w1,nb,w3,w4,trivial,w6,w7,w8,w9⟩ wz
   refine ⟨decide ((⟨3,[],e,r,false,y,l,m,n⟩:S_api_Item)={ zI with f_Kind:=3 }),?_,?_,fun h=>?_⟩
   ·unfold script_Right
    show (script_Same ⟨3,[],e,r,false,y,l,m,n⟩ { zI with f_Kind:=3 }>>=_)=_
    rw [c1,bindM_some]
   ·congr 1
    rw [Bool.eq_iff_iff]
    simp [zI]
    grind
   ·simp only [decide_eq_true_eq,zI,S_api_Item.mk.injEq] at h
    obtain ⟨_,_,rfl,rfl,_,rfl,rfl,rfl,rfl⟩:=h
    exact .k3n b
 by_cases k4:k=4
 ·subst k4
  obtain ⟨hb,h1,h2⟩:=host_right e w3
  have okz:=ok_zI.2.2.1
  cases hb with
  | false =>
   refine ⟨false,?_,?_,fun h=>by cases h⟩
   ·have ne:∀ (r':List Int) (o':Bool),(∀ z∈r',(Lit.int .u8 z).wf=true)→script_Same ⟨4,[],{ e with f_Port:=-1 },r',o',y,l,m,n⟩ { zI with f_Kind:=4 }=some false:=fun r' o' hr=>by
     rw [same_code ⟨4,[],{ e with f_Port:=-1 },r',o',y,l,m,n⟩ { zI with f_Kind:=4 } ⟨w1,nb,⟨w3.1,(show (Lit.int .i64 (-1)).wf=true by decide)⟩,hr,trivial,w6,w7,w8,w9⟩ wz,decide_eq_false]
     simp [zI]
    unfold script_Right
    show (hostport_Right e>>=_)=_
    rw [h1,bindM_some,if_neg (by simp)]
    cases o with
    | true =>
     show (script_Same ⟨4,[],{ e with f_Port:=-1 },[],false,y,l,m,n⟩ { zI with f_Kind:=4 }>>=_)=_
     rw [ne [] false nb,bindM_some]
    | false =>
     show (script_Same ⟨4,[],{ e with f_Port:=-1 },r,false,y,l,m,n⟩ { zI with f_Kind:=4 }>>=_)=_
     rw [ne r false w4,bindM_some]
   ·unfold crawlwayref50_Right
    show (crawlwayref12_Right e>>=_)=_
    rw [h2,bindM_some,if_pos (by rfl)]
  | true =>
   have c2:=tail_ref (x:=⟨4,b,e,r,o,y,l,m,n⟩) (y:={ zI with f_Kind:=4,f_Bytes:=b,f_From:=e,f_Result:=r,f_Ok:=o }) hs
   have rf:crawlwayref50_Right ⟨4,b,e,r,o,y,l,m,n⟩=some (decide (({ zI with f_Kind:=4,f_Bytes:=b,f_From:=e,f_Result:=r,f_Ok:=o }:S_api_Item)=⟨4,b,e,r,o,y,l,m,n⟩)&&(o||decide (r=[]))):=by
    unfold crawlwayref50_Right
    show (crawlwayref12_Right e>>=_)=_
    rw [h2,bindM_some,if_neg (by simp)]
    exact c2
   rw [rf]
   cases o with
   | true =>
    have c1:=same_code ⟨4,[],zI.f_From,[],false,y,l,m,n⟩ { zI with f_Kind:=4 } ⟨w1,nb,okz,nb,trivial,w6,w7,w8,w9⟩ wz
    refine ⟨decide ((⟨4,[],zI.f_From,[],false,y,l,m,n⟩:S_api_Item)={ zI with f_Kind:=4 }),?_,?_,fun h=>?_⟩
    ·unfold script_Right
     show (hostport_Right e>>=_)=_
     rw [h1,bindM_some,if_pos rfl]
     show (script_Same ⟨4,[],zI.f_From,[],false,y,l,m,n⟩ { zI with f_Kind:=4 }>>=_)=_
     rw [c1,bindM_some]
    ·congr 1
     rw [Bool.eq_iff_iff]
     simp [zI]
     grind
    ·simp only [decide_eq_true_eq,zI,S_api_Item.mk.injEq] at h
     obtain ⟨_,_,_,_,_,rfl,rfl,rfl,rfl⟩:=h
     exact .k4y b r e h1
   | false =>
    have c1:=same_code ⟨4,[],zI.f_From,r,false,y,l,m,n⟩ { zI with f_Kind:=4 } ⟨w1,nb,okz,w4,trivial,w6,w7,w8,w9⟩ wz
    refine ⟨decide ((⟨4,[],zI.f_From,r,false,y,l,m,n⟩:S_api_Item)={ zI with f_Kind:=4 }),?_,?_,fun h=>?_⟩
    ·unfold script_Right
     show (hostport_Right e>>=_)=_
     rw [h1,bindM_some,if_pos rfl]
     show (script_Same ⟨4,[],zI.f_From,r,false,y,l,m,n⟩ { zI with f_Kind:=4 }>>=_)=_
     rw [c1,bindM_some]
    ·congr 1
     rw [Bool.eq_iff_iff]
     simp [zI]
     grind
    ·simp only [decide_eq_true_eq,zI,S_api_Item.mk.injEq] at h
     obtain ⟨_,_,_,rfl,_,rfl,rfl,rfl,rfl⟩:=h
     exact .k4n b e h1
 by_cases k5:k=5
 ·subst k5
  have c1:=same_code ⟨5,b,e,r,o,zI.f_Key,0,0,0⟩ { zI with f_Kind:=5 } ⟨w1,w2,w3,w4,w5,ok_zI.2.2.2.2.2.1,(show (Lit.int .u32 0).wf=true by decide),(show (Lit.int .u32 0).wf=true by decide),(show (Lit.int .u64 0).wf=true by decide)⟩ wz
  have c2:=tail_ref (x:=⟨5,b,e,r,o,y,l,m,n⟩) (y:={ zI with f_Kind:=5,f_Key:=y,f_Local:=l,f_Remote:=m,f_Next:=n }) ⟨Nat.zero_le _,Nat.zero_le _⟩
  refine ⟨decide ((⟨5,b,e,r,o,zI.f_Key,0,0,0⟩:S_api_Item)={ zI with f_Kind:=5 }),?_,?_,fun h=>?_⟩
  ·unfold script_Right
   show (script_Same ⟨5,b,e,r,o,zI.f_Key,0,0,0⟩ { zI with f_Kind:=5 }>>=_)=_
   rw [c1,bindM_some]
  ·have:crawlwayref50_Right ⟨5,b,e,r,o,y,l,m,n⟩=some (decide (({ zI with f_Kind:=5,f_Key:=y,f_Local:=l,f_Remote:=m,f_Next:=n }:S_api_Item)=⟨5,b,e,r,o,y,l,m,n⟩)&&(o||decide (r=[]))):=by
    unfold crawlwayref50_Right
    exact c2
   rw [this]
   congr 1
   rw [Bool.eq_iff_iff]
   simp [zI]
   grind
  ·simp only [decide_eq_true_eq,zI,S_api_Item.mk.injEq] at h
   obtain ⟨_,rfl,rfl,rfl,rfl,_⟩:=h
   exact .k5 y l m n
 by_cases k6:k=6
 ·subst k6
  have c1:=same_code ⟨6,b,e,r,o,y,0,m,n⟩ { zI with f_Kind:=6 } ⟨w1,w2,w3,w4,w5,w6,(show (Lit.int .u32 0).wf=true by decide),w8,w9⟩ wz
  have c2:=tail_ref (x:=⟨6,b,e,r,o,y,l,m,n⟩) (y:={ zI with f_Kind:=6,f_Local:=l }) ⟨Nat.zero_le _,Nat.zero_le _⟩
  refine ⟨decide ((⟨6,b,e,r,o,y,0,m,n⟩:S_api_Item)={ zI with f_Kind:=6 }),?_,?_,fun h=>?_⟩
  ·unfold script_Right
   show (script_Same ⟨6,b,e,r,o,y,0,m,n⟩ { zI with f_Kind:=6 }>>=_)=_
   rw [c1,bindM_some]
  ·have:crawlwayref50_Right ⟨6,b,e,r,o,y,l,m,n⟩=some (decide (({ zI with f_Kind:=6,f_Local:=l }:S_api_Item)=⟨6,b,e,r,o,y,l,m,n⟩)&&(o||decide (r=[]))):=by
    unfold crawlwayref50_Right
    exact c2
   rw [this]
   congr 1
   rw [Bool.eq_iff_iff]
   simp [zI]
   grind
  ·simp only [decide_eq_true_eq,zI,S_api_Item.mk.injEq] at h
   obtain ⟨_,rfl,rfl,rfl,rfl,rfl,_,rfl,rfl⟩:=h
   exact .k6 l
 ·have q:∀ j:Int,(j=1∨j=2∨j=3∨j=4∨j=5∨j=6)→¬ (k==j)=true:=fun j hj=>by
   rw [beq_iff_eq];rintro rfl
   rcases hj with rfl | rfl | rfl | rfl | rfl | rfl<;>simp_all
  refine ⟨false,?_,?_,fun h=>by cases h⟩
  ·unfold script_Right
   rw [if_neg (q 1 (by simp)),if_neg (q 2 (by simp)),if_neg (q 3 (by simp)),if_neg (q 4 (by simp)),if_neg (q 5 (by simp)),if_neg (q 6 (by simp))]
  ·unfold crawlwayref50_Right
   rw [if_neg (q 1 (by simp)),if_neg (q 2 (by simp)),if_neg (q 3 (by simp)),if_neg (q 4 (by simp)),if_neg (q 5 (by simp)),if_neg (q 6 (by simp))]
def jn:List (List UInt8)→List UInt8
 | []=>[]
 | [a]=>a
 | a::b::r=>a++32::jn (b::r)
def no32(l:List UInt8):Prop:=∀ x∈l,32<x.toNat
theorem no32.ne{l:List UInt8}(h:no32 l)(c:UInt8)(hc:c.toNat≤32):∀ x∈l,x≠c:=fun x hx e=>by
 have:=h x hx
 rw [e] at this;omega
theorem parts_jn:∀ (W:List (List UInt8)),W≠[]→(∀ w∈W,no32 w)→parts 32 (jn W)=W
 | [],h,_=>absurd rfl h
 | [a],_,h=>parts_none 32 a ((h a (by simp)).ne 32 (by decide))
 | a::b::r,_,h=>by
  show parts 32 (a++32::jn (b::r))=_
  rw [parts_cons 32 _ a ((h a (by simp)).ne 32 (by decide)),parts_jn (b::r) (by simp) fun w hw=>h w (List.mem_cons_of_mem _ hw)]
theorem join_jn:∀ (W:List (List UInt8)),Lib.join W [32]=jn W
 | []=>rfl
 | [a]=>Lib.join_one a [32]
 | a::b::r=>by
  rw [Lib.join_cons]
  show a++Lib.joinTail [32] (b::r)=a++32::jn (b::r)
  rw [←join_jn (b::r),Lib.join_cons]
  simp [Lib.joinTail]
theorem bjoin_jn(W:List (List UInt8)):bjoin (W.map bs) (⟨#[32]⟩:ByteArray)=bs (jn W):=by
 apply mk_inj
 unfold bjoin
 rw [bs_list,←join_jn]
 show (Lib.join ((W.map bs).map (·.data.toList)) [32]).toArray.toList=_
 rw [List.map_map]
 have:((fun x:ByteArray=>x.data.toList)∘bs)=id:=by funext l;exact bs_list l
 rw [this,List.map_id]
theorem jn_len(m:Nat):∀ (W:List (List UInt8)),(∀ w∈W,w.length≤m)→(jn W).length≤W.length*(m+1)
 | [],_=>Nat.zero_le _
 | [a],h=>by have:=h a (by simp);simp only [jn,List.length_cons,List.length_nil];omega
 | a::b::r,h=>by
  have h1:=h a (by simp)
  have h2:=jn_len m (b::r) fun w hw=>h w (List.mem_cons_of_mem _ hw)
  show (a++32::jn (b::r)).length≤_
  simp only [List.length_append,List.length_cons] at h2 ⊢
  rw [Nat.add_mul,Nat.one_mul]
  omega
theorem dg_32:∀ n:Fin 16,32<(Hex.dg n.1).toNat:=by decide +kernel
theorem g1_32(n:Nat):∀ x∈Col.g1 n,32<x.toNat:=by
 induction n using Nat.strongRecOn with
 | _ n ih =>
  intro x hx
  unfold Col.g1 Hex.grp at hx
  split at hx
  ·next h =>
   simp only [Hex.dig,List.mem_singleton] at hx
   subst hx
   exact dg_32 ⟨n,h⟩
  ·next h =>
   rw [append_list] at hx
   rcases List.mem_append.1 hx with hx | hx
   ·exact ih _ (show n/16<n by omega) x hx
   ·simp only [Hex.dig,List.mem_singleton] at hx
    subst hx
    exact dg_32 ⟨n%16,by omega⟩
theorem rowL_32:∀ (G:List Nat),∀ x∈Col.rowL G,32<x.toNat
 | [],x,h=>by cases h
 | [n],x,h=>g1_32 n x h
 | n::m::r,x,h=>by
  rcases List.mem_append.1 h with h | h
  ·exact g1_32 n x h
  ·rcases List.mem_cons.1 h with rfl | h
   ·decide
   ·exact rowL_32 (m::r) x h
theorem textL_32(G:List Nat):∀ x∈Col.textL G,32<x.toNat:=by
 intro x h
 unfold Col.textL at h
 split at h
 ·exact rowL_32 _ x h
 ·rcases List.mem_append.1 h with h | h
  ·exact rowL_32 _ x h
  ·rcases List.mem_cons.1 h with rfl | h
   ·decide
   ·rcases List.mem_cons.1 h with rfl | h
    ·decide
    ·exact rowL_32 _ x h
theorem dec_32(n:Nat):no32 (Lib.decDigits n):=fun x hx=>by
 have:=dig_iff.1 (List.all_eq_true.1 (decDigits_dig n) x hx)
 omega
theorem qText_32{m:List UInt8}(hm:m.length=4):no32 (qText m):=by
 intro x hx
 match m,hm with
 | [a,b,c,d],_ =>
  have hx':x∈Lib.decDigits a.toNat++46::(Lib.decDigits b.toNat++46::(Lib.decDigits c.toNat++46::Lib.decDigits d.toNat)):=hx
  simp only [List.mem_append,List.mem_cons] at hx'
  rcases hx' with h | h | h | h | h | h | h
  ·exact dec_32 _ x h
  ·subst h;decide
  ·exact dec_32 _ x h
  ·subst h;decide
  ·exact dec_32 _ x h
  ·subst h;decide
  ·exact dec_32 _ x h
theorem adrT_32{V:Int}{l:List UInt8}(hl:l.length=16):no32 (adrT V l):=by
 intro x hx
 unfold adrT at hx
 split at hx
 ·split at hx
  ·exact qText_32 (by rw [List.length_take];omega) x hx
  ·exact textL_32 _ x hx
 ·cases hx
theorem host_32{V:Int}{l:List UInt8}(hl:l.length=16)(k:Nat):no32 (Host.hostL V l k):=by
 intro x hx
 unfold Host.hostL at hx
 split at hx
 ·simp only [List.mem_append,List.mem_cons] at hx
  rcases hx with h | h | h
  ·exact adrT_32 hl x h
  ·subst h;decide
  ·exact dec_32 _ x h
 ·simp only [List.mem_append,List.mem_cons] at hx
  rcases hx with h | h | h | h | h
  ·subst h;decide
  ·exact adrT_32 hl x h
  ·subst h;decide
  ·subst h;decide
  ·exact dec_32 _ x h
theorem encL_32(l:List UInt8):no32 (Hex.encL l):=by
 intro x hx
 unfold Hex.encL at hx
 obtain ⟨b,_,hb⟩:=List.mem_flatMap.1 hx
 have:=b.toNat_lt
 simp only [List.mem_cons,List.not_mem_nil,or_false] at hb
 rcases hb with rfl | rfl
 ·exact dg_32 ⟨b.toNat/16,by omega⟩
 ·exact dg_32 ⟨b.toNat%16,by omega⟩
def wL(b:List UInt8):List UInt8:=if b=[] then [45] else Hex.encL b
theorem wL_32(b:List UInt8):no32 (wL b):=by
 unfold wL
 split
 ·intro x hx;simp only [List.mem_singleton] at hx;subst hx;decide
 ·exact encL_32 b
theorem wL_len(b:List UInt8):(wL b).length≤2*b.length+1:=by
 unfold wL
 split
 ·simp
 ·rw [Hex.encL_length];omega
theorem ob_nil{b:List UInt8}(h:b≠[]):((ob b).length:Int)≠0:=by
 have:0<b.length:=List.length_pos_iff.2 h
 unfold ob
 rw [List.length_map];omega
theorem word_code(b:List UInt8)(hb:b.length<1000000):script_word (ob b)=some (bs (wL b)):=by
 unfold script_word wL
 by_cases h:b=[]
 ·subst h;rfl
 ·rw [if_neg (by simpa using ob_nil h),if_neg h,Hex.encode_eq b hb,bindM_some];rfl
theorem word_ref(b:List UInt8)(hb:b.length<1000000):crawlwayref50_word (ob b)=some (bs (wL b)):=by
 unfold crawlwayref50_word wL
 by_cases h:b=[]
 ·subst h;rfl
 ·rw [if_neg (by simpa using ob_nil h),if_neg h,Hex.refEncode_eq b hb,bindM_some];rfl
theorem bs_ne{l k:List UInt8}(h:l≠k):bs l≠bs k:=fun e=>h (bs_inj e)
theorem U_wL(b:List UInt8):U (bs (wL b))=(ob b,0):=by
 unfold U wL
 by_cases h:b=[]
 ·subst h;rw [if_pos rfl,if_pos (show bs [45]=(⟨#[45]⟩:ByteArray) from rfl)];rfl
 ·have hl:=Hex.encL_length b
  have hp:0<b.length:=List.length_pos_iff.2 h
  have h1:bs (Hex.encL b)≠(⟨#[45]⟩:ByteArray):=bs_ne (k:=[45]) fun e=>by rw [e] at hl;simp at hl;omega
  have h2:bs (Hex.encL b)≠(⟨#[]⟩:ByteArray):=bs_ne (k:=[]) fun e=>by rw [e] at hl;simp at hl;omega
  have h3:Hex.dec (bs (Hex.encL b))=some b:=Hex.dec_enc b
  rw [if_neg h,if_neg h1,if_neg h2,h3]
structure Line (x:S_api_Item) (W:List (List UInt8)):Prop where
 ne:W≠[]
 len:W.length≤5
 no:∀ w∈W,no32 w
 sz:∀ w∈W,w.length≤20000
 code:script_Text x=some (bs (jn W),0)
 ref:crawlwayref50_Text x=some (bs (jn W))
 back:pB (W.map bs)=(x,0)
theorem bj{L:List ByteArray}(W:List (List UInt8))(h:L=W.map bs)(hl:∀ w∈W,w.length≤20000)(hn:W.length≤5):(if List.length L≤140737488355328 then if (bjoin L (⟨#[32]⟩:ByteArray)).size≤140737488355328 then some (bjoin L (⟨#[32]⟩:ByteArray),(0:Int)) else none else none)=some (bs (jn W),0):=by
 subst h
 have h1:=jn_len 20000 W hl
 have h2:W.length*(20000+1)≤5*20001:=Nat.mul_le_mul_right _ hn
 rw [bjoin_jn,if_pos (by rw [List.length_map];omega),if_pos (by rw [bs_size];omega)]
abbrev l1:List UInt8:=[115,101,116]
abbrev l2:List UInt8:=[108,111,97,100]
abbrev l3:List UInt8:=[111,117,116]
abbrev l4:List UInt8:=[105,110]
abbrev l5:List UInt8:=[105,110,115,116,97,108,108]
abbrev l6:List UInt8:=[102,111,114,103,101,116]
theorem l_32{l:List UInt8}(h:l.all (fun x=>decide (32<x.toNat))=true):no32 l:=fun x hx=>by
 have:=List.all_eq_true.1 h x hx
 simpa using this
theorem all2{P:List UInt8→Prop}{a b:List UInt8}(ha:P a)(hb:P b):∀ w∈[a,b],P w:=by
 intro w hw;simp only [List.mem_cons,List.not_mem_nil,or_false] at hw
 rcases hw with rfl | rfl<;>assumption
theorem all3{P:List UInt8→Prop}{a b c:List UInt8}(ha:P a)(hb:P b)(hc:P c):∀ w∈[a,b,c],P w:=by
 intro w hw;simp only [List.mem_cons,List.not_mem_nil,or_false] at hw
 rcases hw with rfl | rfl | rfl<;>assumption
theorem all4{P:List UInt8→Prop}{a b c d:List UInt8}(ha:P a)(hb:P b)(hc:P c)(hd:P d):∀ w∈[a,b,c,d],P w:=by
 intro w hw;simp only [List.mem_cons,List.not_mem_nil,or_false] at hw
 rcases hw with rfl | rfl | rfl | rfl<;>assumption
theorem all5{P:List UInt8→Prop}{a b c d e:List UInt8}(ha:P a)(hb:P b)(hc:P c)(hd:P d)(he:P e):∀ w∈[a,b,c,d,e],P w:=by
 intro w hw;simp only [List.mem_cons,List.not_mem_nil,or_false] at hw
 rcases hw with rfl | rfl | rfl | rfl | rfl<;>assumption
abbrev ln(w:List UInt8):Prop:=w.length≤20000
theorem code1{x:S_api_Item}{w:List UInt8}(hr:script_Right x=some true)(hk:x.f_Kind=1)(hw:script_word x.f_Bytes=some (bs w))(hl:ln w):script_Text x=some (bs (jn [l1,w]),0):=by
 unfold script_Text
 rw [hr,bindM_some,if_neg (by simp),hk,if_pos (by rfl),hw,bindM_some,if_pos (by simp)]
 exact bj [l1,w] rfl (all2 (P:=ln) (by decide) hl) (by simp)
theorem code2{x:S_api_Item}{w:List UInt8}(hr:script_Right x=some true)(hk:x.f_Kind=2)(hw:script_word x.f_Bytes=some (bs w))(hl:ln w):script_Text x=some (bs (jn [l2,w]),0):=by
 unfold script_Text
 rw [hr,bindM_some,if_neg (by simp),hk,if_neg (by decide),if_pos (by rfl),hw,bindM_some,if_pos (by simp)]
 exact bj [l2,w] rfl (all2 (P:=ln) (by decide) hl) (by simp)
def rL(o:Bool)(r:List UInt8):List UInt8:=if o=true then wL r else [33]
theorem rL_len(o:Bool)(r:List UInt8):(rL o r).length≤2*r.length+1:=by
 unfold rL
 split
 ·exact wL_len r
 ·simp
theorem rL_32(o:Bool)(r:List UInt8):no32 (rL o r):=by
 unfold rL
 split
 ·exact wL_32 r
 ·exact l_32 (by decide)
theorem code3{x:S_api_Item}{w r:List UInt8}(hr:script_Right x=some true)(hk:x.f_Kind=3)(hw:script_word x.f_Bytes=some (bs w))(hl:ln w)(he:x.f_Result=ob r)(hn:r.length≤7000):script_Text x=some (bs (jn [l3,w,rL x.f_Ok r]),0):=by
 have hb:=bj [l3,w,rL x.f_Ok r] rfl (all3 (P:=ln) (by decide) hl (by have:=rL_len x.f_Ok r;show _≤_;omega)) (by simp)
 unfold script_Text
 rw [hr,bindM_some,if_neg (by simp),hk,if_neg (by decide),if_neg (by decide),if_pos (by rfl),hw,bindM_some,if_pos (by simp),he]
 revert hb
 unfold rL
 cases x.f_Ok with
 | false =>
  intro hb
  rw [if_pos (by rfl),if_pos (by simp)]
  exact hb
 | true =>
  intro hb
  rw [if_neg (by simp),word_code r (by omega),bindM_some,if_pos (by simp)]
  exact hb
theorem code4{x:S_api_Item}{h w r:List UInt8}(hr:script_Right x=some true)(hk:x.f_Kind=4)(hh:hostport_Text x.f_From=some (bs h))(hm:ln h)(hw:script_word x.f_Bytes=some (bs w))(hl:ln w)(he:x.f_Result=ob r)(hn:r.length≤7000):script_Text x=some (bs (jn [l4,h,w,rL x.f_Ok r]),0):=by
 have hb:=bj [l4,h,w,rL x.f_Ok r] rfl (all4 (P:=ln) (by decide) hm hl (by have:=rL_len x.f_Ok r;show _≤_;omega)) (by simp)
 unfold script_Text
 rw [hr,bindM_some,if_neg (by simp),hk,if_neg (by decide),if_neg (by decide),if_neg (by decide),if_pos (by rfl),hh,bindM_some,if_pos (by simp),hw,bindM_some,if_pos (by simp),he]
 revert hb
 unfold rL
 cases x.f_Ok with
 | false =>
  intro hb
  rw [if_pos (by rfl),if_pos (by simp)]
  exact hb
 | true =>
  intro hb
  rw [if_neg (by simp),word_code r (by omega),bindM_some,if_pos (by simp)]
  exact hb
theorem code5{x:S_api_Item}{v a b c:List UInt8}(hr:script_Right x=some true)(hk:x.f_Kind=5)(hv:keys_Hex x.f_Key=some (bs v))(ha:decimal_Text (wr .u64 x.f_Local)=some (bs a))(hb:decimal_Text (wr .u64 x.f_Remote)=some (bs b))(hc:decimal_Text x.f_Next=some (bs c))(vl:ln v)(al:ln a)(bl:ln b)(cl:ln c):script_Text x=some (bs (jn [l5,v,a,b,c]),0):=by
 unfold script_Text
 rw [hr,bindM_some,if_neg (by simp),hk,if_neg (by decide),if_neg (by decide),if_neg (by decide),if_neg (by decide),if_pos (by rfl),hv,bindM_some,if_pos (by simp),ha,bindM_some,if_pos (by simp),hb,bindM_some,if_pos (by simp),hc,bindM_some,if_pos (by simp)]
 exact bj [l5,v,a,b,c] rfl (all5 (P:=ln) (by decide) vl al bl cl) (by simp)
theorem code6{x:S_api_Item}{a:List UInt8}(hr:script_Right x=some true)(hk:x.f_Kind=6)(ha:decimal_Text (wr .u64 x.f_Local)=some (bs a))(al:ln a):script_Text x=some (bs (jn [l6,a]),0):=by
 unfold script_Text
 rw [hr,bindM_some,if_neg (by simp),hk,if_neg (by decide),if_neg (by decide),if_neg (by decide),if_neg (by decide),if_neg (by decide),if_pos (by rfl),ha,bindM_some,if_pos (by simp)]
 exact bj [l6,a] rfl (all2 (P:=ln) (by decide) al) (by simp)
theorem ap1{A B:List UInt8}{α:Type}{f:ByteArray→Option α}(h:A.length+B.length≤1000000):(if (bs A).size+(bs B).size≤140737488355328 then f (bs A++bs B) else none)=f (bs (A++B)):=by
 rw [if_pos (by rw [bs_size,bs_size];omega),Host.bs_app]
theorem ref1{x:S_api_Item}{w:List UInt8}(hk:x.f_Kind=1)(hw:crawlwayref50_word x.f_Bytes=some (bs w))(hl:ln w):crawlwayref50_Text x=some (bs (jn [l1,w])):=by
 unfold crawlwayref50_Text
 rw [hk,if_pos (by rfl),hw,bindM_some]
 exact ap1 (A:=[115,101,116,32]) (f:=some) (by have:w.length≤20000:=hl;simp only [List.length_cons,List.length_nil];omega)
theorem ref2{x:S_api_Item}{w:List UInt8}(hk:x.f_Kind=2)(hw:crawlwayref50_word x.f_Bytes=some (bs w))(hl:ln w):crawlwayref50_Text x=some (bs (jn [l2,w])):=by
 unfold crawlwayref50_Text
 rw [hk,if_neg (by decide),if_pos (by rfl),hw,bindM_some]
 exact ap1 (A:=[108,111,97,100,32]) (f:=some) (by have:w.length≤20000:=hl;simp only [List.length_cons,List.length_nil];omega)
theorem answer_ref{x:S_api_Item}{r:List UInt8}(he:x.f_Result=ob r)(hn:r.length≤7000):crawlwayref50_answer x=some (bs (rL x.f_Ok r)):=by
 unfold crawlwayref50_answer rL
 cases x.f_Ok with
 | false=>rw [if_pos (by rfl)];rfl
 | true=>rw [if_neg (by simp),he,word_ref r (by omega),bindM_some];rfl
theorem ref3{x:S_api_Item}{w r:List UInt8}(hk:x.f_Kind=3)(hw:crawlwayref50_word x.f_Bytes=some (bs w))(hl:ln w)(he:x.f_Result=ob r)(hn:r.length≤7000):crawlwayref50_Text x=some (bs (jn [l3,w,rL x.f_Ok r])):=by
 have hR:=rL_len x.f_Ok r
 have hl:w.length≤20000:=hl
 have b1:(⟨#[111,117,116,32]⟩:ByteArray)=bs [111,117,116,32]:=rfl
 have b2:(⟨#[32]⟩:ByteArray)=bs [32]:=rfl
 unfold crawlwayref50_Text
 rw [hk,if_neg (by decide),if_neg (by decide),if_pos (by rfl),hw,bindM_some,answer_ref he hn,bindM_some,b1,b2]
 rw [if_pos (by simp only [ByteArray.size_append,bs_size,List.length_cons,List.length_nil];omega),if_pos (by simp only [ByteArray.size_append,bs_size,List.length_cons,List.length_nil];omega),if_pos (by simp only [ByteArray.size_append,bs_size,List.length_cons,List.length_nil];omega)]
 simp only [Host.bs_app]
 simp [jn]
theorem ref4{x:S_api_Item}{h w r:List UInt8}(hk:x.f_Kind=4)(hh:crawlwayref12_Text x.f_From=some (bs h))(hm:ln h)(hw:crawlwayref50_word x.f_Bytes=some (bs w))(hl:ln w)(he:x.f_Result=ob r)(hn:r.length≤7000):crawlwayref50_Text x=some (bs (jn [l4,h,w,rL x.f_Ok r])):=by
 have hR:=rL_len x.f_Ok r
 have hl:w.length≤20000:=hl
 have hm:h.length≤20000:=hm
 have b1:(⟨#[105,110,32]⟩:ByteArray)=bs [105,110,32]:=rfl
 have b2:(⟨#[32]⟩:ByteArray)=bs [32]:=rfl
 unfold crawlwayref50_Text
 rw [hk,if_neg (by decide),if_neg (by decide),if_neg (by decide),if_pos (by rfl),hh,bindM_some,hw,bindM_some,answer_ref he hn,bindM_some,b1,b2]
 repeat rw [if_pos (by simp only [ByteArray.size_append,bs_size,List.length_cons,List.length_nil];omega)]
 simp only [Host.bs_app]
 simp [jn]
theorem ref5{x:S_api_Item}{v a b c:List UInt8}{V:List Int}(hk:x.f_Kind=5)(hV:crawlwayref07_Bytes x.f_Key=some V)(hv:crawlwayref05_Encode V=some (bs v))(ha:crawlwayref03_Text (wr .u64 x.f_Local)=some (bs a))(hb:crawlwayref03_Text (wr .u64 x.f_Remote)=some (bs b))(hc:crawlwayref03_Text x.f_Next=some (bs c))(vl:ln v)(al:ln a)(bl:ln b)(cl:ln c):crawlwayref50_Text x=some (bs (jn [l5,v,a,b,c])):=by
 have vl:v.length≤20000:=vl
 have al:a.length≤20000:=al
 have bl:b.length≤20000:=bl
 have cl:c.length≤20000:=cl
 have b1:(⟨#[105,110,115,116,97,108,108,32]⟩:ByteArray)=bs [105,110,115,116,97,108,108,32]:=rfl
 have b2:(⟨#[32]⟩:ByteArray)=bs [32]:=rfl
 unfold crawlwayref50_Text
 rw [hk,if_neg (by decide),if_neg (by decide),if_neg (by decide),if_neg (by decide),if_pos (by rfl),hV,bindM_some,hv,bindM_some,ha,bindM_some,hb,bindM_some,hc,bindM_some,b1,b2]
 repeat rw [if_pos (by simp only [ByteArray.size_append,bs_size,List.length_cons,List.length_nil];omega)]
 simp only [Host.bs_app]
 simp [jn]
theorem ref6{x:S_api_Item}{a:List UInt8}(hk:x.f_Kind=6)(ha:crawlwayref03_Text (wr .u64 x.f_Local)=some (bs a))(al:ln a):crawlwayref50_Text x=some (bs (jn [l6,a])):=by
 unfold crawlwayref50_Text
 rw [hk,if_neg (by decide),if_neg (by decide),if_neg (by decide),if_neg (by decide),if_neg (by decide),ha,bindM_some]
 exact ap1 (A:=[102,111,114,103,101,116,32]) (f:=some) (by have:a.length≤20000:=al;simp only [List.length_cons,List.length_nil];omega)
theorem rt_right{x:S_api_Item}(h:Rt x)(w:ok_api_Item x)(hs:smallI x):script_Right x=some true:=by
 obtain ⟨b,h1,h2,_⟩:=right_both x w hs
 have tl:∀ {y:S_api_Item},smallI y→y=x→(x.f_Ok=true∨x.f_Result=[])→(crawlwayref50_Same y x>>=fun t=>if t=true then (if x.f_Ok=true then (some true) else (some ((x.f_Result.length:Int)==0))) else (some false))=some true:=fun hy e ho=>by
  rw [tail_ref hy,decide_eq_true e,Bool.true_and]
  rcases ho with ho | ho
  ·rw [ho];rfl
  ·rw [decide_eq_true ho,Bool.or_true]
 have:crawlwayref50_Right x=some true:=by
  cases h with
  | k12 k hk b =>
   unfold crawlwayref50_Right
   rcases hk with rfl | rfl
   ·exact tl (y:={ zI with f_Kind:=1,f_Bytes:=b }) hs rfl (.inr rfl)
   ·exact tl (y:={ zI with f_Kind:=2,f_Bytes:=b }) hs rfl (.inr rfl)
  | k3n b=>unfold crawlwayref50_Right;exact tl (y:={ zI with f_Kind:=3,f_Bytes:=b }) hs rfl (.inr rfl)
  | k3y b r=>unfold crawlwayref50_Right;exact tl (y:={ zI with f_Kind:=3,f_Bytes:=b,f_Result:=r,f_Ok:=true }) hs rfl (.inl rfl)
  | k4n b e he =>
   obtain ⟨hb,g1,g2⟩:=host_right e w.2.2.1
   obtain rfl:hb=true:=Option.some.inj (g1.symm.trans he)
   unfold crawlwayref50_Right
   show (crawlwayref12_Right e>>=_)=_
   rw [g2,bindM_some,if_neg (by simp)]
   exact tl (y:={ zI with f_Kind:=4,f_From:=e,f_Bytes:=b }) hs rfl (.inr rfl)
  | k4y b r e he =>
   obtain ⟨hb,g1,g2⟩:=host_right e w.2.2.1
   obtain rfl:hb=true:=Option.some.inj (g1.symm.trans he)
   unfold crawlwayref50_Right
   show (crawlwayref12_Right e>>=_)=_
   rw [g2,bindM_some,if_neg (by simp)]
   exact tl (y:={ zI with f_Kind:=4,f_From:=e,f_Bytes:=b,f_Result:=r,f_Ok:=true }) hs rfl (.inl rfl)
  | k5 v a b c=>unfold crawlwayref50_Right;exact tl (y:={ zI with f_Kind:=5,f_Key:=v,f_Local:=a,f_Remote:=b,f_Next:=c }) hs rfl (.inr rfl)
  | k6 a=>unfold crawlwayref50_Right;exact tl (y:={ zI with f_Kind:=6,f_Local:=a }) hs rfl (.inr rfl)
 rw [h1,←h2,this]
theorem out_ok{α:Type}(a:α)(f:α→S_api_Item×Int):out (a,0) f=f a:=if_pos rfl
theorem ans_rL(x:S_api_Item)(hx:x.f_Ok=false∧x.f_Result=[])(o:Bool)(r:List UInt8)(h:o=false→r=[]):ans x (bs (rL o r))=({ x with f_Ok:=o,f_Result:=ob r },0):=by
 unfold ans rL
 cases o with
 | false =>
  rw [if_pos (show bs (if false=true then wL r else [33])=(⟨#[33]⟩:ByteArray) from rfl),h rfl]
  obtain ⟨e1,e2⟩:=hx
  cases x
  simp only at e1 e2
  subst e1;subst e2;rfl
 | true =>
  have:bs (wL r)≠(⟨#[33]⟩:ByteArray):=bs_ne (k:=[33]) fun e=>by
   unfold wL at e
   split at e
   ·cases e
   ·have:=Hex.encL_length r
    rw [e] at this
    simp at this;omega
  show (if bs (wL r)=(⟨#[33]⟩:ByteArray) then _ else out (U (bs (wL r))) _)=_
  rw [if_neg this,U_wL,out_ok]
theorem back1(b:List UInt8):pB [bs l1,bs (wL b)]=({ zI with f_Kind:=1,f_Bytes:=ob b },0):=by
 rw [pB1 (t:=[bs l1,bs (wL b)]) (show knd n1=1 by decide +kernel),if_pos (by rfl)]
 show out (U (bs (wL b))) _=_
 rw [U_wL,out_ok]
theorem back2(b:List UInt8):pB [bs l2,bs (wL b)]=({ zI with f_Kind:=2,f_Bytes:=ob b },0):=by
 rw [pB2 (t:=[bs l2,bs (wL b)]) (show knd n2=2 by decide +kernel),if_pos (by rfl)]
 show out (U (bs (wL b))) _=_
 rw [U_wL,out_ok]
theorem back3(b r:List UInt8)(o:Bool)(h:o=false→r=[]):pB [bs l3,bs (wL b),bs (rL o r)]=({ zI with f_Kind:=3,f_Bytes:=ob b,f_Ok:=o,f_Result:=ob r },0):=by
 rw [pB3 (t:=[bs l3,bs (wL b),bs (rL o r)]) (show knd n3=3 by decide +kernel),if_pos (by rfl)]
 show out (U (bs (wL b))) (fun b'=>ans { zI with f_Kind:=3,f_Bytes:=b' } (bs (rL o r)))=_
 rw [U_wL,out_ok]
 exact ans_rL _ ⟨rfl,rfl⟩ o r h
theorem back4(w b r:List UInt8)(e:S_api_Endpoint)(he:H (bs w)=(e,0))(o:Bool)(h:o=false→r=[]):pB [bs l4,bs w,bs (wL b),bs (rL o r)]=({ zI with f_Kind:=4,f_From:=e,f_Bytes:=ob b,f_Ok:=o,f_Result:=ob r },0):=by
 rw [pB4 (t:=[bs l4,bs w,bs (wL b),bs (rL o r)]) (show knd n4=4 by decide +kernel),if_pos (by rfl)]
 show out (H (bs w)) (fun e'=>out (U (bs (wL b))) fun b'=>ans { zI with f_Kind:=4,f_From:=e',f_Bytes:=b' } (bs (rL o r)))=_
 rw [he,out_ok,U_wL,out_ok]
 exact ans_rL _ ⟨rfl,rfl⟩ o r h
theorem D_dec(n m:Nat)(h:n≤m):D (bs (Lib.decDigits n)) m=((n:Int),0):=by
 unfold D
 rw [bs_list,rdU_text,if_pos h];rfl
theorem back5(v:Vector Int 32)(k:List UInt8)(a b c:Nat)(hk:K (bs k)=(v,0))(ha:a≤M32)(hb:b≤M32)(hc:c≤M64):pB [bs l5,bs k,bs (Lib.decDigits a),bs (Lib.decDigits b),bs (Lib.decDigits c)]=({ zI with f_Kind:=5,f_Key:=v,f_Local:=(a:Int),f_Remote:=(b:Int),f_Next:=(c:Int) },0):=by
 rw [pB5 (t:=[bs l5,bs k,bs (Lib.decDigits a),bs (Lib.decDigits b),bs (Lib.decDigits c)]) (show knd n5=5 by decide +kernel),if_pos (by rfl)]
 show out (K (bs k)) (fun v=>out (D (bs (Lib.decDigits a)) M32) fun a=>out (D (bs (Lib.decDigits b)) M32) fun b=>out (D (bs (Lib.decDigits c)) M64) fun c=>({ zI with f_Kind:=5,f_Key:=v,f_Local:=wr .u32 a,f_Remote:=wr .u32 b,f_Next:=c },0))=_
 unfold M32 at *
 rw [hk,out_ok,D_dec _ _ ha,out_ok,D_dec _ _ hb,out_ok,D_dec _ _ hc,out_ok,wr_u32 (by omega) (by omega),wr_u32 (by omega) (by omega)]
theorem back6(a:Nat)(ha:a≤M32):pB [bs l6,bs (Lib.decDigits a)]=({ zI with f_Kind:=6,f_Local:=(a:Int) },0):=by
 rw [pB6 (t:=[bs l6,bs (Lib.decDigits a)]) (show knd n6=6 by decide +kernel),if_pos (by rfl)]
 show out (D (bs (Lib.decDigits a)) M32) (fun a=>({ zI with f_Kind:=6,f_Local:=wr .u32 a },0))=_
 unfold M32 at *
 rw [D_dec _ _ ha,out_ok,wr_u32 (by omega) (by omega)]
theorem key_all{v:Vector Int 32}{l:List UInt8}(hl:v.toList=ob l)(h32:l.length=32):keys_Hex v=some (bs (Hex.encL l))∧crawlwayref07_Bytes v=some v.toList∧crawlwayref05_Encode v.toList=some (bs (Hex.encL l))∧K (bs (Hex.encL l))=(v,0):=by
 refine ⟨?_,Key.bytes_eq v,?_,?_⟩
 ·unfold keys_Hex;rw [hl,Hex.encode_eq _ (by omega),bindM_some];rfl
 ·rw [hl,Hex.refEncode_eq _ (by omega)];rfl
 ·unfold K
  have h3:Hex.dec (bs (Hex.encL l))=some l:=Hex.dec_enc l
  rw [h3]
  show Key.par (ob l,0)=_
  rw [←hl]
  unfold Key.par
  rw [if_neg (by simp),Key.ofR_vec]
theorem dec_texts(n:Nat)(h:n<18446744073709551616):decimal_Text (n:Int)=some (bs (Lib.decDigits n))∧crawlwayref03_Text (n:Int)=some (bs (Lib.decDigits n))∧ln (Lib.decDigits n):=by
 refine ⟨?_,?_,?_⟩
 ·rw [text_code n h,Host.fmtU_bs]
 ·rw [text_ref n h,Host.fmtU_bs]
 ·have:=decDigits_len n h
  show _≤_
  omega
theorem dec_texts32(n:Nat)(h:n<4294967296):decimal_Text (wr .u64 (n:Int))=some (bs (Lib.decDigits n))∧crawlwayref03_Text (wr .u64 (n:Int))=some (bs (Lib.decDigits n))∧ln (Lib.decDigits n):=by
 rw [wr_u64 (by omega) (by omega)]
 exact dec_texts n (by omega)
theorem line1{b:List UInt8}{x:S_api_Item}(e:x={ zI with f_Kind:=1,f_Bytes:=ob b })(hb:b.length≤6000)(hr:script_Right x=some true):Line x [l1,wL b]:=by
 have hl:ln (wL b):=by have:=wL_len b;show _≤_;omega
 have hx:x.f_Bytes=ob b:=by rw [e]
 have hk:x.f_Kind=1:=by rw [e]
 exact ⟨by simp,by simp,all2 (l_32 (by decide)) (wL_32 b),all2 (P:=ln) (by decide) hl,code1 hr hk (by rw [hx];exact word_code b (by omega)) hl,ref1 hk (by rw [hx];exact word_ref b (by omega)) hl,by rw [e];exact back1 b⟩
theorem line2{b:List UInt8}{x:S_api_Item}(e:x={ zI with f_Kind:=2,f_Bytes:=ob b })(hb:b.length≤6000)(hr:script_Right x=some true):Line x [l2,wL b]:=by
 have hl:ln (wL b):=by have:=wL_len b;show _≤_;omega
 have hx:x.f_Bytes=ob b:=by rw [e]
 have hk:x.f_Kind=2:=by rw [e]
 exact ⟨by simp,by simp,all2 (l_32 (by decide)) (wL_32 b),all2 (P:=ln) (by decide) hl,code2 hr hk (by rw [hx];exact word_code b (by omega)) hl,ref2 hk (by rw [hx];exact word_ref b (by omega)) hl,by rw [e];exact back2 b⟩
theorem line3{b r:List UInt8}{o:Bool}{x:S_api_Item}(e:x={ zI with f_Kind:=3,f_Bytes:=ob b,f_Ok:=o,f_Result:=ob r })(ho:o=false→r=[])(hb:b.length≤6000)(hn:r.length≤7000)(hr:script_Right x=some true):Line x [l3,wL b,rL o r]:=by
 have hl:ln (wL b):=by have:=wL_len b;show _≤_;omega
 have hR:ln (rL o r):=by have:=rL_len o r;show _≤_;omega
 have hx:x.f_Bytes=ob b:=by rw [e]
 have hy:x.f_Result=ob r:=by rw [e]
 have hz:x.f_Ok=o:=by rw [e]
 have hk:x.f_Kind=3:=by rw [e]
 refine ⟨by simp,by simp,all3 (l_32 (by decide)) (wL_32 b) (rL_32 o r),all3 (P:=ln) (by decide) hl hR,?_,?_,by rw [e];exact back3 b r o ho⟩
 ·rw [←hz];exact code3 hr hk (by rw [hx];exact word_code b (by omega)) hl hy hn
 ·rw [←hz];exact ref3 hk (by rw [hx];exact word_ref b (by omega)) hl hy hn
theorem line4{V:Int}{l b r:List UInt8}{k:Nat}{o:Bool}{x:S_api_Item}(e:x={ zI with f_Kind:=4,f_From:=Host.mkE (mkA V l) (k:Int),f_Bytes:=ob b,f_Ok:=o,f_Result:=ob r })(hl16:l.length=16)(hR16:rightL V l=true)(k1:1≤k)(k2:k≤65535)(ho:o=false→r=[])(hb:b.length≤6000)(hn:r.length≤7000)(hr:script_Right x=some true):Line x [l4,Host.hostL V l k,wL b,rL o r]:=by
 have hl:ln (wL b):=by have:=wL_len b;show _≤_;omega
 have hR:ln (rL o r):=by have:=rL_len o r;show _≤_;omega
 have hH:ln (Host.hostL V l k):=by have:=Host.hostL_len (V:=V) hl16 k k2;show _≤_;omega
 have hE:=HexK.rightE_of hR16 k1 k2
 have t1:=Host.text_code12 (V:=V) (n:=(k:Int)) hl16
 have t2:=Host.text_ref12 (V:=V) (n:=(k:Int)) hl16
 rw [if_pos hE,Int.toNat_natCast] at t1 t2
 have hx:x.f_Bytes=ob b:=by rw [e]
 have hy:x.f_Result=ob r:=by rw [e]
 have hz:x.f_Ok=o:=by rw [e]
 have hf:x.f_From=Host.mkE (mkA V l) (k:Int):=by rw [e]
 have hk:x.f_Kind=4:=by rw [e]
 have hP:H (bs (Host.hostL V l k))=(Host.mkE (mkA V l) (k:Int),0):=by unfold H;rw [bs_list];exact Host.endP_text hl16 hR16 k k1 k2
 refine ⟨by simp,by simp,all4 (l_32 (by decide)) (host_32 hl16 k) (wL_32 b) (rL_32 o r),all4 (P:=ln) (by decide) hH hl hR,?_,?_,by rw [e];exact back4 _ b r _ hP o ho⟩
 ·rw [←hz];exact code4 hr hk (by rw [hf];exact t1) hH (by rw [hx];exact word_code b (by omega)) hl hy hn
 ·rw [←hz];exact ref4 hk (by rw [hf];exact t2) hH (by rw [hx];exact word_ref b (by omega)) hl hy hn
theorem line5{v:Vector Int 32}{l:List UInt8}{a b c:Nat}{x:S_api_Item}(e:x={ zI with f_Kind:=5,f_Key:=v,f_Local:=(a:Int),f_Remote:=(b:Int),f_Next:=(c:Int) })(hv:v.toList=ob l)(h32:l.length=32)(ha:a≤M32)(hb:b≤M32)(hc:c≤M64)(hr:script_Right x=some true):Line x [l5,Hex.encL l,Lib.decDigits a,Lib.decDigits b,Lib.decDigits c]:=by
 have hl:ln (Hex.encL l):=by have:=Hex.encL_length l;show _≤_;omega
 obtain ⟨k1,k2,k3,k4⟩:=key_all hv h32
 have hV:x.f_Key=v:=by rw [e]
 have hA:x.f_Local=(a:Int):=by rw [e]
 have hB:x.f_Remote=(b:Int):=by rw [e]
 have hC:x.f_Next=(c:Int):=by rw [e]
 have hk:x.f_Kind=5:=by rw [e]
 have ha':=ha
 have hb':=hb
 have hc':=hc
 unfold M32 at ha' hb'
 unfold M64 at hc'
 obtain ⟨a1,a2,a3⟩:=dec_texts32 a (by omega)
 obtain ⟨b1,b2,b3⟩:=dec_texts32 b (by omega)
 obtain ⟨c1,c2,c3⟩:=dec_texts c (by omega)
 refine ⟨by simp,by simp,all5 (l_32 (by decide)) (encL_32 l) (dec_32 a) (dec_32 b) (dec_32 c),all5 (P:=ln) (by decide) hl a3 b3 c3,?_,?_,by rw [e];exact back5 v _ a b c k4 ha hb hc⟩
 ·exact code5 hr hk (by rw [hV];exact k1) (by rw [hA];exact a1) (by rw [hB];exact b1) (by rw [hC];exact c1) hl a3 b3 c3
 ·exact ref5 (V:=v.toList) hk (by rw [hV];exact k2) k3 (by rw [hA];exact a2) (by rw [hB];exact b2) (by rw [hC];exact c2) hl a3 b3 c3
theorem line6{a:Nat}{x:S_api_Item}(e:x={ zI with f_Kind:=6,f_Local:=(a:Int) })(ha:a≤M32)(hr:script_Right x=some true):Line x [l6,Lib.decDigits a]:=by
 have hA:x.f_Local=(a:Int):=by rw [e]
 have hk:x.f_Kind=6:=by rw [e]
 have ha':=ha
 unfold M32 at ha'
 obtain ⟨a1,a2,a3⟩:=dec_texts32 a (by omega)
 exact ⟨by simp,by simp,all2 (l_32 (by decide)) (dec_32 a),all2 (P:=ln) (by decide) a3,code6 hr hk (by rw [hA];exact a1) a3,ref6 hk (by rw [hA];exact a2) a3,by rw [e];exact back6 a ha⟩
theorem nat_u32{n:Int}(h:(Lit.int .u32 n).wf=true):∃ k:Nat,n=(k:Int)∧k≤M32:=by
 have h2:0≤n∧n<4294967296:=by
  simp [Lit.wf,IntKind.min,IntKind.max,IntKind.signed,IntKind.bits] at h;omega
 refine ⟨n.toNat,by omega,?_⟩
 show _≤4294967295
 omega
theorem nat_u64{n:Int}(h:(Lit.int .u64 n).wf=true):∃ k:Nat,n=(k:Int)∧k≤M64:=by
 have h2:0≤n∧n<18446744073709551616:=by
  simp [Lit.wf,IntKind.min,IntKind.max,IntKind.signed,IntKind.bits] at h;omega
 refine ⟨n.toNat,by omega,?_⟩
 show _≤18446744073709551615
 omega
theorem ob_len(l:List UInt8):(ob l).length=l.length:=by unfold ob;rw [List.length_map]
theorem end_of{e:S_api_Endpoint}(h:hostport_Right e=some true)(w:ok_api_Endpoint e):∃ V l k,e=Host.mkE (mkA V l) ((k:Nat):Int)∧l.length=16∧rightL V l=true∧1≤k∧k≤65535:=by
 obtain ⟨V,l,n,rfl,hl,_⟩:=Host.exists_mkE e w
 rw [Host.right_code12 hl] at h
 obtain ⟨h1,k,rfl,h2,h3⟩:=Host.rightE_iff (Option.some.inj h)
 exact ⟨V,l,k,rfl,hl,h1,h2,h3⟩
theorem rt_line{x:S_api_Item}(h:Rt x)(w:ok_api_Item x)(hs:smallI x):∃ W,Line x W:=by
 have hr:=rt_right h w hs
 cases h with
 | k12 k hk b =>
  obtain ⟨l,rfl⟩:=exists_ob b w.2.1
  have:=hs.1
  have hl:l.length≤6000:=by rw [←ob_len l];exact this
  rcases hk with rfl | rfl
  ·exact ⟨_,line1 rfl hl hr⟩
  ·exact ⟨_,line2 rfl hl hr⟩
 | k3n b =>
  obtain ⟨l,rfl⟩:=exists_ob b w.2.1
  have hl:l.length≤6000:=by rw [←ob_len l];exact hs.1
  exact ⟨_,line3 (o:=false) (r:=[]) rfl (fun _=>rfl) hl (by simp) hr⟩
 | k3y b r =>
  obtain ⟨l,rfl⟩:=exists_ob b w.2.1
  obtain ⟨m,rfl⟩:=exists_ob r w.2.2.2.1
  have hl:l.length≤6000:=by rw [←ob_len l];exact hs.1
  have hm:m.length≤7000:=by rw [←ob_len m];exact hs.2
  exact ⟨_,line3 (o:=true) (r:=m) rfl (fun h=>by cases h) hl hm hr⟩
 | k4n b e he =>
  obtain ⟨l,rfl⟩:=exists_ob b w.2.1
  obtain ⟨V,q,k,rfl,q16,qR,k1,k2⟩:=end_of he w.2.2.1
  have hl:l.length≤6000:=by rw [←ob_len l];exact hs.1
  exact ⟨_,line4 (o:=false) (r:=[]) rfl q16 qR k1 k2 (fun _=>rfl) hl (by simp) hr⟩
 | k4y b r e he =>
  obtain ⟨l,rfl⟩:=exists_ob b w.2.1
  obtain ⟨m,rfl⟩:=exists_ob r w.2.2.2.1
  obtain ⟨V,q,k,rfl,q16,qR,k1,k2⟩:=end_of he w.2.2.1
  have hl:l.length≤6000:=by rw [←ob_len l];exact hs.1
  have hm:m.length≤7000:=by rw [←ob_len m];exact hs.2
  exact ⟨_,line4 (o:=true) (r:=m) rfl q16 qR k1 k2 (fun h=>by cases h) hl hm hr⟩
 | k5 v a b c =>
  obtain ⟨l,hl⟩:=exists_ob v.toList w.2.2.2.2.2.1
  have h32:l.length=32:=by rw [←ob_len l,←hl,Vector.length_toList]
  obtain ⟨a,rfl,ha⟩:=nat_u32 w.2.2.2.2.2.2.1
  obtain ⟨b,rfl,hb⟩:=nat_u32 w.2.2.2.2.2.2.2.1
  obtain ⟨c,rfl,hc⟩:=nat_u64 w.2.2.2.2.2.2.2.2
  exact ⟨_,line5 rfl hl h32 ha hb hc hr⟩
 | k6 a =>
  obtain ⟨a,rfl,ha⟩:=nat_u32 w.2.2.2.2.2.2.1
  exact ⟨_,line6 rfl ha hr⟩
theorem line_size{x:S_api_Item}{W:List (List UInt8)}(h:Line x W):(jn W).length<1000000:=by
 have h1:=jn_len 20000 W h.sz
 have h2:W.length*(20000+1)≤5*20001:=Nat.mul_le_mul_right _ h.len
 omega
theorem parts_sz(c:UInt8):∀ (l:List UInt8),∀ w∈parts c l,w.length≤l.length
 | [],w,h=>by simp only [parts,List.mem_singleton] at h;subst h;exact Nat.le_refl _
 | x::r,w,h=>by
  have hne:=parts_ne c r
  have ih:=parts_sz c r
  unfold parts at h
  split at h
  ·rcases List.mem_cons.1 h with rfl | h
   ·exact Nat.zero_le _
   ·have:=ih w h;simp only [List.length_cons];omega
  ·cases hp:parts c r with
   | nil=>exact absurd hp hne
   | cons a b =>
    rw [hp] at h ih
    rcases List.mem_cons.1 h with rfl | h
    ·have:=ih a (by simp);simp only [List.headD_cons,List.length_cons];omega
    ·have:=ih w (List.mem_cons_of_mem _ h);simp only [List.length_cons];omega
theorem parse_both{l:List UInt8}(h:l.length<1000000)(h5:(parts 32 l).length≤10000)(hs:∀ w∈parts 32 l,w.length<100000):script_Parse (bs l)=some (pB ((parts 32 l).map bs))∧crawlwayref50_Parse (bs l)=some (pB ((parts 32 l).map bs)):=by
 have h0:0<(parts 32 l).length:=List.length_pos_iff.2 (parts_ne 32 l)
 have sz:∀ s∈(parts 32 l).map bs,s.size<100000:=fun s hm=>by
  obtain ⟨w,hw,rfl⟩:=List.mem_map.1 hm
  rw [bs_size];exact hs w hw
 have e1:=parts_code 32 l h
 have e2:=parts_ref 32 l h
 rw [show ((32:UInt8).toNat:Int)=32 from rfl] at e1 e2
 exact ⟨parse_code _ _ e1 (by rw [List.length_map];exact h0) (by rw [List.length_map];exact h5) sz,parse_ref _ _ e2 (by rw [List.length_map];exact h0) (by rw [List.length_map];exact h5) sz⟩
theorem line_parse{x:S_api_Item}{W:List (List UInt8)}(h:Line x W):script_Parse (bs (jn W))=some (x,0):=by
 have e:=parts_jn W h.ne h.no
 have:=(parse_both (l:=jn W) (line_size h) (by rw [e];have:=h.len;omega) (by rw [e];intro w hw;have:=h.sz w hw;omega)).1
 rw [this,e,h.back]
theorem text_bad{x:S_api_Item}(h:script_Right x=some false):script_Text x=some ((⟨#[]⟩:ByteArray),1):=by
 unfold script_Text;rw [h];rfl
theorem two{t:List ByteArray}(h:t.length=2):t=[lget t 0,lget t 1]:=by
 match t,h with
 | [a,b],_=>rfl
end Go.Proofs.YtkkmmpofdcccmaaGreatDoor.Scr
namespace Go.Proofs.YtkkmmpofdcccmaaGreatDoor
open E Go.RowKit
def strings_Split(x0 x1:ByteArray):Option (List ByteArray):=if x0.size<4294967281∧1≤x1.size then some (Lib.splitB x1 0 (Lib.countB x0 x1) x0) else none
theorem all_str:∀ xs:List ByteArray,cStr.all xs=xs.map Value.string
 | []=>rfl
 | x::r=>by
  show cStr.cs x++cStr.all r=_
  rw [all_str r];rfl
theorem strings_Split_ok(x0:ByteArray)(x1:ByteArray)(r:List ByteArray)(hF:strings_Split x0 x1=some r)(w:World)(hg_bytealg_MaxLen:GV_bytealg_MaxLen w) :
  Calls Tryz.prog 149 #[.string x0,.string x1] w (fun e w'=>∃ p cap,e=.returned (.slice p r.length cap)∧Own cStr 9 w.heap.size w' p cap r∧Below w.heap.size w w'):=by
 unfold strings_Split at hF
 by_cases h:x0.size<4294967281∧1≤x1.size
 ·rw [if_pos h] at hF
  obtain rfl:=Option.some.inj hF
  obtain ⟨m,hm⟩:=hg_bytealg_MaxLen
  have hc:=Lib.countB_le x1 h.2 x0.size x0 (Nat.le_refl _)
  have hl:=Lib.splitB_all x1 h.2 0 _ x0 rfl
  refine (Tryz.strings_Split x0 x1 m w h.1 hm h.2).mono fun e w' h'=>?_
  obtain ⟨rfl,rfl⟩:=h'
  refine ⟨some ⟨w.heap.size,0,none⟩,Lib.countB x0 x1+1,by rw [hl],⟨by rw [all_str,List.length_map];show _=_*1;omega,.inr ⟨w.heap.size,Lib.countB x0 x1+1,_,rfl,Nat.le_refl _,by show (w.heap.push _)[w.heap.size]? = _;rw [Array.getElem?_push_size],by rw [hl];exact Nat.le_refl _,?_,?_,?_⟩⟩,(Below.refl _ _).alloc (Nat.le_refl _) _⟩
  ·unfold maxLen;omega
  ·simp only [List.size_toArray,List.length_map,hl];show _=_*1;omega
  ·rw [all_str,←List.length_map (f:=Value.string)]
   simp only [List.size_toArray,List.toList_toArray]
   show List.take (_*1) _=_
   rw [Nat.mul_one,List.take_length]
 ·rw [if_neg h] at hF;cases hF
end Go.Proofs.YtkkmmpofdcccmaaGreatDoor
namespace Go.Proofs.YtkkmmpofdcccmaaGreatDoor
open E Go.RowKit _root_.Go.Proofs.Tryz
def lines_Join.l0(x0:List ByteArray)(i4:Int)(i5:ByteArray):Option (ByteArray) :=
 if (decide (i4<(x0.length:Int)))=true then (if (0:Int)≤i4∧i4<(x0.length:Int) then if i5.size+(lget x0 i4).size≤140737488355328 then if (i5++(lget x0 i4)).size+(⟨#[10]⟩:ByteArray).size≤140737488355328 then lines_Join.l0 x0 (wr .i64 (i4+1)) ((i5++(lget x0 i4))++(⟨#[10]⟩:ByteArray)) else none else none else none) else (some i5)
 partial_fixpoint
def lines_Join(x0:List ByteArray):Option (ByteArray) :=
 lines_Join.l0 x0 0 ByteArray.empty>>=fun q3=>some q3
theorem lines_Join_ok(x0:List ByteArray)(p0_:Option Addr)(c0_:Nat)(r:ByteArray)(hF:lines_Join x0=some r)(w:World)(hr0:Row cStr w p0_ c0_ x0) :
    Calls Tryz.prog 60 #[.slice p0_ x0.length c0_] w (fun e w'=>e=.returned (.string r)∧Below w.heap.size w w'):=by
 unfold lines_Join at hF
 refine ce (l:=[.slice p0_ x0.length c0_]) func60 rfl rfl ?_
 refine at_start ?_
 refine sr (aa (ns ?_))
 refine at_alloc_bld (e:=5) zeroValue137 rfl ?_
 intro b1
 refine nt (qs (sr (am ?_)))
 refine aw (r_len_sl underlying38 rfl) ?_
 refine am (nwq [8,7,6,3] ?_)
 refine qb ?_
 obtain ⟨q3,hq3,hF⟩:=bM hF
 refine wq [8,7,6,3] ?_
 refine at_loop_n (B:=0) (A:=fun Y=>∀ (g7:Option Nat),At 17 [(3,.pointer (some ⟨b1,0,none⟩))] (Wd w [bldE 137 5 b1 g7 q3]) Y) ?_ ?_
 ·intro K
  refine lines_Join.l0.partial_correctness x0 (motive:=fun i4 i5 x=>KN (fun Y=>∀ (g7:Option Nat),At 17 [(3,.pointer (some ⟨b1,0,none⟩))] (Wd w [bldE 137 5 b1 g7 x]) Y) _ 0→Round (fun Y=>∀ (g6:Option Nat),At 17 [(3,.pointer (some ⟨b1,0,none⟩)),(6,.slice p0_ x0.length c0_),(7,.int .i64 (x0.length:Int)),(8,.int .i64 i4)] (Wd w [bldE 137 5 b1 g6 i5]) Y) _ _ _) ?_ _ _ _ hq3 K none
  ·clear K hF
   intro g ih i4 i5 x hF K g6
   refine at_round ?_
   refine sr (aw xl (nwq [9,8,7,6,3] ?_))
   refine qs ?_
   obtain ⟨h8,hF⟩|⟨h8,hF⟩:=oi hF
   ·refine ct h8 ?_
    refine sn (qs ?_)
    refine qb ?_
    refine sr ?_
    obtain ⟨h9,hF⟩:=gd hF
    obtain ⟨b11,o12,hp10⟩:=row_ptr hr0 h9
    refine aw (r_idx underlying38 sizeOf9 rfl rfl h9 hp10) ?_
    refine aw (r_load_cell isAgg9 rfl (row_cell0 (fun _ h=>h.below) hr0 h9 hp10 rfl)) ?_
    refine aa (nwx [8,7,6,5,3] ?_)
    refine am ?_
    obtain ⟨h14,hF⟩:=gd hF
    refine at_bld_str (s:=(lget x0 i4)) .z trivial func84 rfl (by kernel_rfl) rfl rfl h14 Tryz.Builder_WriteString_k ?_
    intro g13
    refine nwq [8,7,6,3] ?_
    refine qr ?_
    obtain ⟨h16,hF⟩:=gd hF
    refine at_bld_str (s:=(⟨#[10]⟩:ByteArray)) .z trivial func84 rfl (by kernel_rfl) rfl rfl h16 Tryz.Builder_WriteString_k ?_
    intro g15
    refine qn (wq [8,7,6,3] ?_)
    refine bm ?_
    refine qr (aw xa (am (nwq [8,7,6,3] ?_)))
    exact at_weak_k (ih _ _ _ hF K g15) ⟨rfl,rfl,rfl,rfl,trivial⟩
   refine cf h8 ?_
   refine at_exit ?_
   refine te (te ?_)
   obtain rfl:=os hF
   exact at_weak_k (K g6) ⟨rfl,trivial⟩
 skip
 intro g7
 refine at_blk_same ?_
 refine tn (sr ?_)
 refine at_bld_string .z trivial func85 rfl (by kernel_rfl) rfl rfl Tryz.Builder_String_any_k ?_
 intro g17
 refine aa (qn (dz (wq [2] ?_)))
 refine tn (qt ?_)
 have K:=os hF
 subst K
 exact r1 wb
def stringslite_HasSuffix(x0:ByteArray)(x1:ByteArray):Option (Bool) :=
 if (decide ((x0.size:Int)≥(x1.size:Int)))=true then (if (0:Int)≤wr .i64 ((x0.size:Int)-(x1.size:Int))∧wr .i64 ((x0.size:Int)-(x1.size:Int))≤(x0.size:Int)∧(x0.size:Int)≤(x0.size:Int) then some (seq (x0.extract (Int.toNat (wr .i64 ((x0.size:Int)-(x1.size:Int)))) (Int.toNat (x0.size:Int))) x1) else none) else (some false)
theorem stringslite_HasSuffix_ok(x0:ByteArray)(x1:ByteArray)(r:Bool)(hF:stringslite_HasSuffix x0 x1=some r)(w:World) :
    Calls Tryz.prog 148 #[.string x0,.string x1] w (fun e w'=>e=.returned (.bool r)∧w'=w):=by
 unfold stringslite_HasSuffix at hF
 refine ce (l:=[.string x0,.string x1]) func148 rfl rfl ?_
 refine sr (aa (nwx [1,0] ?_))
 refine am ?_
 refine aw (r_len_str underlying9 rfl) ?_
 refine am ?_
 refine aw (r_len_str underlying9 rfl) ?_
 refine aw (r_igeq rfl rfl) ?_
 refine am ?_
 obtain ⟨h1,hF⟩|⟨h1,hF⟩:=oi hF
 ·refine fx 10 h1 ?_
  refine gy ?_
  refine am ?_
  refine gy ?_
  refine am ?_
  refine gy ?_
  refine aw (r_len_str underlying9 rfl) ?_
  refine gy ?_
  refine am ?_
  refine gy ?_
  refine aw (r_len_str underlying9 rfl) ?_
  refine gy ?_
  refine aw (r_isub rfl rfl) ?_
  refine gy ?_
  obtain ⟨h2,hF⟩:=gd hF
  refine aw (r_slice_str underlying9 rfl ⟨_,rfl⟩ rfl h2) ?_
  refine gy ?_
  refine am ?_
  refine gy ?_
  refine aw (r_seql rfl rfl) ?_
  refine aw xp (aa (nwq [4] ?_))
  refine qt ?_
  have K:=os hF
  subst K
  exact r1 (fun w1 hw=>⟨rfl,hw⟩)
 refine fx 10 h1 ?_
 refine gn ?_
 refine gn ?_
 refine gn ?_
 refine gn ?_
 refine gn ?_
 refine gn ?_
 refine gn ?_
 refine gn ?_
 refine gn ?_
 refine aw xp (aa (nwq [4] ?_))
 refine qt ?_
 have K:=os hF
 subst K
 exact r1 (fun w1 hw=>⟨rfl,hw⟩)
def strings_HasSuffix(x0:ByteArray)(x1:ByteArray):Option (Bool) :=
 stringslite_HasSuffix x0 x1>>=fun t1=>some t1
theorem strings_HasSuffix_ok(x0:ByteArray)(x1:ByteArray)(r:Bool)(hF:strings_HasSuffix x0 x1=some r)(w:World) :
    Calls Tryz.prog 91 #[.string x0,.string x1] w (fun e w'=>e=.returned (.bool r)∧w'=w):=by
 unfold strings_HasSuffix at hF
 refine ce (l:=[.string x0,.string x1]) func91 rfl rfl ?_
 refine sr (aa (ns (am (am ?_))))
 obtain ⟨t1,ht1,hF⟩:=bM hF
 refine at_call0 func148 rfl (by kernel_rfl) rfl rfl (fun w=>stringslite_HasSuffix_ok _ _ _ ht1 w) ?_
 refine aa (nwq [4] ?_)
 refine qt ?_
 have K:=os hF
 subst K
 exact r1 (fun w1 hw=>⟨rfl,hw⟩)
def lines_Loose(x0:ByteArray):Option (List ByteArray) :=
 if (seq x0 (⟨#[]⟩:ByteArray))=true then (some ([])) else (if x0.size≤9223372036854775807 then strings_Split (⟨(Lib.trimSuffix x0.data.toList (⟨#[10]⟩:ByteArray).data.toList).toArray⟩:ByteArray) (⟨#[10]⟩:ByteArray)>>=fun t3=>some t3 else none)
theorem lines_Loose_ok(x0:ByteArray)(r:List ByteArray)(hF:lines_Loose x0=some r)(w:World)(hg_bytealg_MaxLen:GV_bytealg_MaxLen w) :
    Calls Tryz.prog 92 #[.string x0] w (fun e w'=>∃ p cap,e=.returned (.slice p r.length cap)∧Own cStr 9 w.heap.size w' p cap r∧Below w.heap.size w w'):=by
 unfold lines_Loose at hF
 refine ce (l:=[.string x0]) func92 rfl rfl ?_
 refine at_start ?_
 refine sr (aa (nt (qs (sr (am ?_)))))
 refine aw (r_seql rfl rfl) ?_
 refine nwq [4,0] ?_
 obtain ⟨h1,hF⟩|⟨h1,hF⟩:=oi hF
 ·refine ct h1 ?_
  refine sr (aa (nwq [2] ?_))
  refine rt ?_
  have K:=os hF
  subst K
  exact r1 (fun w1 hw=>⟨none,0,rfl,Own.nil _ _ _ _,hw.below⟩)
 refine cf h1 ?_
 refine sns (am ?_)
 obtain ⟨h2,hF⟩:=gd hF
 refine cB func150 rfl (fun w1 hw=>callB_of_call0 (Tryz.strings_TrimSuffix _ _ w1 h2)) ?_
 obtain ⟨t3,ht3,hF⟩:=bM hF
 refine at_callO (c:=cStr) (e:=9) (ys:=t3) (V:=fun p cap=>.slice p t3.length cap) func149 rfl (by kernel_rfl) rfl rfl (fun w hw=>strings_Split_ok _ _ _ ht3 w (hg_bytealg_MaxLen.on hw.below)) ?_
 intro p4 c5
 refine aa (nwq [2] ?_)
 refine qt ?_
 have K:=os hF
 subst K
 exact r1 (fun w1 hw=>⟨p4,c5,rfl,hw.own .z,hw.below⟩)
def lines_Split(x0:ByteArray):Option (List ByteArray×Bool) :=
 if (!seq x0 (⟨#[]⟩:ByteArray))=true then (strings_HasSuffix x0 (⟨#[10]⟩:ByteArray)>>=fun t2=>if (!t2)=true then (some ([],false)) else (lines_Loose x0>>=fun t4=>some (t4,true))) else (lines_Loose x0>>=fun t7=>some (t7,true))
theorem lines_Split_ok(x0:ByteArray)(r:List ByteArray×Bool)(hF:lines_Split x0=some r)(w:World)(hg_bytealg_MaxLen:GV_bytealg_MaxLen w) :
    Calls Tryz.prog 61 #[.string x0] w (fun e w'=>∃ p cap,e=.returned (.tuple #[.slice p r.1.length cap,.bool r.2])∧Own cStr 9 w.heap.size w' p cap r.1∧Below w.heap.size w w'):=by
 unfold lines_Split at hF
 refine ce (l:=[.string x0]) func61 rfl rfl ?_
 refine at_start ?_
 refine sr (aa (aa (nwq [0] ?_)))
 refine qs (sr (am ?_))
 refine aw (r_sneq rfl rfl) ?_
 refine am ?_
 obtain ⟨h1,hF⟩|⟨h1,hF⟩:=oi hF
 ·refine fx 6 h1 ?_
  refine gy ?_
  refine am ?_
  refine gy ?_
  obtain ⟨t2,ht2,hF⟩:=bM hF
  refine at_call0 func91 rfl (by kernel_rfl) rfl rfl (fun w=>strings_HasSuffix_ok _ _ _ ht2 w) ?_
  refine gy ?_
  refine aw (r_not rfl) ?_
  refine aw xp (nwq [10,0] ?_)
  obtain ⟨h3,hF⟩|⟨h3,hF⟩:=oi hF
  ·refine ct h3 ?_
   refine sr (aa (aa (nwq [3,2] ?_)))
   refine rt ?_
   have K:=os hF
   subst K
   exact at_return2 rfl rfl rfl (fun w1 hw=>⟨none,0,rfl,Own.nil _ _ _ _,hw.below⟩)
  refine cf h3 ?_
  refine sns (am ?_)
  obtain ⟨t4,ht4,hF⟩:=bM hF
  refine at_callO (c:=cStr) (e:=9) (ys:=t4) (V:=fun p cap=>.slice p t4.length cap) func92 rfl (by kernel_rfl) rfl rfl (fun w hw=>lines_Loose_ok _ _ ht4 w (hg_bytealg_MaxLen.on hw.below)) ?_
  intro p5 c6
  refine aa (aa (nwq [3,2] ?_))
  refine qt ?_
  have K:=os hF
  subst K
  exact at_return2 rfl rfl rfl (fun w1 hw=>⟨p5,c6,rfl,hw.own .z,hw.below⟩)
 refine fx 6 h1 ?_
 refine gn ?_
 refine gn ?_
 refine gn ?_
 refine aw xp (nwq [10,0] ?_)
 refine cf rfl ?_
 refine sns (am ?_)
 obtain ⟨t7,ht7,hF⟩:=bM hF
 refine at_callO (c:=cStr) (e:=9) (ys:=t7) (V:=fun p cap=>.slice p t7.length cap) func92 rfl (by kernel_rfl) rfl rfl (fun w hw=>lines_Loose_ok _ _ ht7 w (hg_bytealg_MaxLen.on hw.below)) ?_
 intro p8 c9
 refine aa (aa (nwq [3,2] ?_))
 refine qt ?_
 have K:=os hF
 subst K
 exact at_return2 rfl rfl rfl (fun w1 hw=>⟨p8,c9,rfl,hw.own .z,hw.below⟩)
def crawlwayref06_Loose(x0:ByteArray):Option (List ByteArray) :=
 crawlwayref06_Parts x0 10>>=fun t1=>if (0:Int)≤wr .i64 ((t1.length:Int)-1)∧wr .i64 ((t1.length:Int)-1)<(t1.length:Int) then if (seq (lget t1 (wr .i64 ((t1.length:Int)-1))) (⟨#[]⟩:ByteArray))=true then (if (0:Int)≤wr .i64 ((t1.length:Int)-1)∧wr .i64 ((t1.length:Int)-1)≤(t1.length:Int) then some (List.take (Int.toNat (wr .i64 ((t1.length:Int)-1))) t1) else none) else (some t1) else none
theorem crawlwayref06_Loose_ok(x0:ByteArray)(r:List ByteArray)(hF:crawlwayref06_Loose x0=some r)(w:World) :
    Calls Tryz.prog 33 #[.string x0] w (fun e w'=>∃ p cap,e=.returned (.slice p r.length cap)∧Own cStr 9 w.heap.size w' p cap r∧Below w.heap.size w w'):=by
 unfold crawlwayref06_Loose at hF
 refine ce (l:=[.string x0]) func33 rfl rfl ?_
 refine at_start ?_
 refine sr (aa (ns (am ?_)))
 obtain ⟨t1,ht1,hF⟩:=bM hF
 refine at_callO (c:=cStr) (e:=9) (ys:=t1) (V:=fun p cap=>.slice p t1.length cap) func56 rfl (by kernel_rfl) rfl rfl (fun w hw=>crawlwayref06_Parts_ok _ _ _ ht1 w) ?_
 intro p2 c3
 refine aa (nt (qs (sr (am (am ?_)))))
 refine aw (r_len_sl underlying38 rfl) ?_
 refine aw (r_isub rfl rfl) ?_
 obtain ⟨h4,hF⟩:=gd hF
 refine at_pure (φ:=∃ b o,p2=some ⟨b,o,none⟩) (fun _ hw=>row_ptr (hw.own .z).row h4) ?_
 rintro ⟨b6,o7,hp5⟩
 refine aw (r_idx underlying38 sizeOf9 rfl rfl h4 hp5) ?_
 refine aw (r_load_cell isAgg9 rfl (fun _ hw=>row_cell0 (W:=fun w1=>w1=_) (fun w1 h=>by subst h;exact Below.refl _ _) (hw.own .z).row h4 hp5 rfl _ rfl)) ?_
 refine aw (r_seql rfl rfl) ?_
 refine nwq [12,3] ?_
 obtain ⟨h8,hF⟩|⟨h8,hF⟩:=oi hF
 ·refine ct h8 ?_
  refine sr (am (am ?_))
  refine aw (r_len_sl underlying38 rfl) ?_
  refine aw (r_isub rfl rfl) ?_
  obtain ⟨h9,hF⟩:=gd hF
  refine at_cutOwn (c:=cStr) .z underlying38 sizeOf9 rfl rfl h9 rfl ?_
  refine aa (nwq [2] ?_)
  refine rt ?_
  have K:=os hF
  subst K
  exact r1 (fun w1 hw=>⟨p2,c3,rfl,hw.own .z,hw.below⟩)
 refine cf h8 ?_
 refine sns (am (aa (nwq [2] ?_)))
 refine qt ?_
 have K:=os hF
 subst K
 exact r1 (fun w1 hw=>⟨p2,c3,rfl,hw.own .z,hw.below⟩)
theorem infoSJ9_is:(Tryz.prog.info? 9).isSome=true:=by kernel_rfl
noncomputable def infoSJ9_v:TypeInfo:=(Tryz.prog.info? 9).get infoSJ9_is
theorem infoSJ9:Tryz.prog.info? 9=some infoSJ9_v:=(Option.some_get _).symm
theorem infoSJ33_is:(Tryz.prog.info? 33).isSome=true:=by kernel_rfl
noncomputable def infoSJ33_v:TypeInfo:=(Tryz.prog.info? 33).get infoSJ33_is
theorem infoSJ33:Tryz.prog.info? 33=some infoSJ33_v:=(Option.some_get _).symm
def script_Script.l0(x0:List S_api_Item)(i4:List ByteArray)(i5:Int):Option (Ctl (ByteArray×Int) (List ByteArray)) :=
 if (decide (i5<(x0.length:Int)))=true then (if (0:Int)≤i5∧i5<(x0.length:Int) then script_Text (lget x0 i5)>>=fun t22=>if (t22.2 != 0)=true then (some (.ret (⟨#[]⟩,t22.2))) else (if (i4.length+1)*16≤140737488355328 then script_Script.l0 x0 (i4++[t22.1]) (wr .i64 (i5+1)) else none) else none) else (some (.nx i4))
 partial_fixpoint
def script_Script(x0:List S_api_Item):Option (ByteArray×Int) :=
 script_Script.l0 x0 ([]:List ByteArray) 0>>=fun q3=>match q3 with | .ret r'=>some r' | .nx sq3=>(lines_Join sq3>>=fun t28=>some (t28,0))
theorem script_Script_ok(x0:List S_api_Item)(p0_:Option Addr)(c0_:Nat)(r:ByteArray×Int)(hF:script_Script x0=some r)(w:World)(hr0:NR_api_Item w p0_ c0_ x0)(hg_bytealg_MaxLen:GV_bytealg_MaxLen w)(hg_strconv_ErrRange:GV_strconv_ErrRange w)(hg_strconv_ErrSyntax:GV_strconv_ErrSyntax w)(hg_strconv_uint64pow10:GV_strconv_uint64pow10 w) :
    Calls Tryz.prog 31 #[.slice p0_ x0.length c0_] w (fun e w'=>e=.returned (.tuple #[.string r.1,.int .i64 r.2])∧Below w.heap.size w w'):=by
 unfold script_Script at hF
 refine ce (l:=[.slice p0_ x0.length c0_]) func31 rfl rfl ?_
 refine at_start ?_
 refine sr (aa (aa (ns (aa (nt (qs (sr (am ?_))))))))
 refine aw (r_len_sl underlying35 rfl) ?_
 refine am (nwq [11,10,9,4] ?_)
 refine qb ?_
 refine at_own_nil cStr 9 ?_
 obtain ⟨q3,hq3,hF⟩:=bM hF
 refine wq [11,10,9,4] ?_
 refine at_loop_r (B:=0) (r:=r) (q:=q3) (A:=fun sq3 Y=>∀ (p8:Option Addr) (c9:Nat),At 30 [(4,.slice p8 sq3.length c9)] (Wd w [rowE cStr 9 p8 c9 sq3]) Y) ?_ ?_
 ·intro K
  refine script_Script.l0.partial_correctness x0 (motive:=fun i4 i5 x=>KR (fun sq3 Y=>∀ (p8:Option Addr) (c9:Nat),At 30 [(4,.slice p8 sq3.length c9)] (Wd w [rowE cStr 9 p8 c9 sq3]) Y) _ 0 r x→Round (fun Y=>∀ (p6:Option Addr) (c7:Nat),At 30 [(4,.slice p6 i4.length c7),(9,.slice p0_ x0.length c0_),(10,.int .i64 (x0.length:Int)),(11,.int .i64 i5)] (Wd w [rowE cStr 9 p6 c7 i4]) Y) _ _ _) ?_ _ _ _ hq3 K none 0
  ·clear K hF
   intro g ih i4 i5 x hF K p6 c7
   refine at_round ?_
   refine sr (aw xl (nwq [12,11,10,9,4] ?_))
   refine qs ?_
   obtain ⟨h10,hF⟩|⟨h10,hF⟩:=oi hF
   ·refine ct h10 ?_
    refine sn (qs ?_)
    refine qb ?_
    refine sr ?_
    obtain ⟨h11,hF⟩:=gd hF
    obtain ⟨zs15,hz16,hr17,hn18⟩:=id hr0
    obtain ⟨b13,o14,hp12⟩:=row_ptr hr17 (zidx hz16 h11)
    obtain ⟨g19,hg20⟩:=zget hz16 i5
    refine aw (r_idx underlying35 sizeOf33 rfl rfl h11 hp12) ?_
    refine aw (r_load_aggc (c:=c_api_Item) (z:=(g19,lget x0 i5)) isAgg33 sizeOf33 rfl (ncell (fun _ h=>h.below) hr17 (zidx hz16 h11) hp12 hg20)) ?_
    refine al (cs:=Cd.cs c_api_Item zv10) zeroValue33 ?_
    intro b21
    refine at_store (c:=c_api_Item) (z:=(g19,lget x0 i5)) .z lw sizeOf33 rfl rfl rfl ?_
    refine ns ?_
    refine aw (r_load_aggc (c:=c_api_Item) (z:=(g19,lget x0 i5)) isAgg33 sizeOf33 rfl (lens_cell .z lw)) ?_
    obtain ⟨t22,ht22,hF⟩:=bM hF
    refine cB func23 rfl (fun w hw=>script_Text_ok _ _ _ ht22 w (N_api_Item.below (nz hg20 hn18 (zidx hz16 h11)) hw.below) (hg_bytealg_MaxLen.on hw.below) (hg_strconv_ErrRange.on hw.below) (hg_strconv_ErrSyntax.on hw.below) (hg_strconv_uint64pow10.on hw.below)) ?_
    refine am ?_
    refine aw xe (aw xe (aa (aa (qn (dz (tn (qs (sr ?_))))))))
    refine am (aw xn (nwq [21,11,10,9,8,7,4] ?_))
    obtain ⟨h23,hF⟩|⟨h23,hF⟩:=oi hF
    ·refine ct h23 ?_
     refine sr (am (aa (aa (qn (dz (wq [3,2] ?_))))))
     refine tn (qt ?_)
     refine tr (br (tr (tr (br (tr ?_)))))
     obtain rfl:=os hF
     subst K
     exact at_return2 rfl rfl rfl wb
    refine cf h23 ?_
    refine sn (qr (am (am ?_)))
    refine at_lit (cs:=cStr.all ([t22.1]:List ByteArray)) underlying38 sizeOf9 zeroValue9 rfl rfl rfl (by kernel_rfl) rfl ?_
    intro b24
    obtain ⟨h25,hF⟩:=gd hF
    refine at_append (z:=.string ⟨#[]⟩) (c:=cStr) (ys:=([t22.1]:List ByteArray)) (.s .z) underlying38 infoSJ9 (by kernel_rfl) (by kernel_rfl) rfl rfl rfl rfl (fun _ hw=>cells_src (hw.ok (Upd.mem .z))) (by kernel_rfl) h25 (app_small h25) rfl ?_
    intro p26 c27
    refine aa (qn (dz (wq [11,10,9,4] ?_)))
    refine bm ?_
    refine qr (aw xa (am (nwq [11,10,9,4] ?_)))
    exact at_weak_k (ih _ _ _ hF K p26 c27) ⟨rfl,rfl,rfl,rfl,trivial⟩
   refine cf h10 ?_
   refine at_exit ?_
   refine te (te ?_)
   obtain rfl:=os hF
   exact at_weak_k (K p6 c7) ⟨rfl,trivial⟩
 cases q3 with
 | ret r'=>exact os hF
 | nx sq3 =>
  intro p8 c9
  refine at_blk_same ?_
  refine tn (sr (am ?_))
  obtain ⟨t28,ht28,hF⟩:=bM hF
  refine cB func60 rfl (fun w hw=>lines_Join_ok _ _ _ _ ht28 w (hw.own .z).row) ?_
  refine aa (aa (qn (dz (wq [3,2] ?_))))
  refine tn (qt ?_)
  have K:=os hF
  subst K
  exact at_return2 rfl rfl rfl wb
def script_Read.l0(t1:List ByteArray×Bool)(i12:List S_api_Item)(i13:Int):Option (Ctl (List S_api_Item×Int×Int) (List S_api_Item)) :=
 if (decide (i13<(t1.1.length:Int)))=true then (if (0:Int)≤i13∧i13<(t1.1.length:Int) then script_Parse (lget t1.1 i13)>>=fun t29=>if (t29.2 != 0)=true then (some (.ret (([]:List S_api_Item),wr .i64 (i13+1),t29.2))) else (if (i12.length+1)*144≤140737488355328 then script_Read.l0 t1 (i12++[t29.1]) (wr .i64 (i13+1)) else none) else none) else (some (.nx i12))
 partial_fixpoint
def script_Read(x0:ByteArray):Option (List S_api_Item×Int×Int) :=
 lines_Split x0>>=fun t1=>if (!t1.2)=true then (some (([]:List S_api_Item),0,5)) else (script_Read.l0 t1 ([]:List S_api_Item) 0>>=fun q11=>match q11 with | .ret r'=>some r' | .nx sq11=>(some (sq11,0,0)))
theorem script_Read_ok{x0:ByteArray}{r:List S_api_Item×Int×Int}(hF:script_Read x0=some r):∀ {w0 w:World} {G_:List Ent} {Z_:List Nat} {s_:World} (hw_:Wd w0 (frzE w0 Z_ s_::G_) w) (hg_bytealg_MaxLen:GV_bytealg_MaxLen w0) (hg_strconv_ErrRange:GV_strconv_ErrRange w0) (hg_strconv_ErrSyntax:GV_strconv_ErrSyntax w0) (hg_strconv_uint64pow10:GV_strconv_uint64pow10 w0),
    Calls Tryz.prog 32 #[.string x0] w (fun e w'=>∃ (Z':List Nat) (s':World) (z:Option Addr×Nat),Mono (KZ w0 Z_) s_ (KZ w0 Z') s'∧e=.returned (.tuple #[.slice z.1 (List.length r.1) z.2,.int .i64 r.2.1,.int .i64 r.2.2])∧(NKR_api_Item (KZ w0 Z') s' z.1 z.2 r.1)∧Wd w0 (frzE w0 Z' s'::G_) w'):=by
 intro w0 w G_ Z_ s_   hw_ hg_bytealg_MaxLen hg_strconv_ErrRange hg_strconv_ErrSyntax hg_strconv_uint64pow10
 unfold script_Read at hF
 refine ce (l:=[.string x0]) func32 rfl rfl ?_
 refine at_enterF hw_ ?_
 clear hw_
 obtain ⟨Z0_,hZ0_⟩:∃ Z0_,Z0_=Z_:=⟨_,rfl⟩
 obtain ⟨s0_,hs0_⟩:∃ s0_,s0_=s_:=⟨_,rfl⟩
 have hM_:Mono (KZ w0 Z0_) s0_ (KZ w0 Z_) s_:=by rw [hZ0_,hs0_];exact Mono.refl _ _
 rw [←hZ0_,←hs0_]
 rw [show frzE w0 Z0_ s0_=frzE w0 Z_ s_ from by rw [hZ0_,hs0_]]
 refine sr (aa (aa (aa (ns (am ?_)))))
 obtain ⟨t1,ht1,hF⟩:=bM hF
 refine at_callO (c:=cStr) (e:=9) (ys:=t1.1) (V:=fun p cap=>.tuple #[.slice p t1.1.length cap,.bool t1.2]) func61 rfl (by kernel_rfl) rfl rfl (fun w hw=>lines_Split_ok _ _ ht1 w (hg_bytealg_MaxLen.on hw.below)) ?_
 intro p2 c3
 refine am ?_
 refine aw xe (aw xe (aa (aa (nt (qs (sr (am ?_)))))))
 refine aw (r_not rfl) ?_
 refine nwq [18,5] ?_
 obtain ⟨h4,hF⟩|⟨h4,hF⟩:=oi hF
 ·refine ct h4 ?_
  refine sr (aa (aa (aa (qn (dz (wq [4,3,2] ?_))))))
  refine tn (rt ?_)
  have K:=os hF
  subst K
  exact at_return3 rfl rfl rfl rfl (fun w1 hw=>⟨Z_,s_,(none,0),hM_,rfl,NRowK.nil ..,hw⟩)
 refine cf h4 ?_
 refine sns (aa (nt (qs (sr (am ?_)))))
 refine aw (r_len_sl underlying38 rfl) ?_
 refine am (nwq [21,20,19,7] ?_)
 refine qb ?_
 refine at_own_nil c_api_Item 33 ?_
 obtain ⟨q11,hq11,hF⟩:=bM hF
 refine wq [21,20,19,7] ?_
 refine at_loop_r (B:=0) (r:=r) (q:=q11) (A:=fun sq11 Y=>∀ (Z_:List Nat) (s_:World) (hM_:Mono (KZ w0 Z0_) s0_ (KZ w0 Z_) s_) (p19:Option Addr) (c20:Nat) (zs21:List (G_api_Item×S_api_Item)) (hz22:List.map Prod.snd zs21=sq11) (ha23:∀ z∈zs21,NK_api_Item (KZ w0 Z_) s_ z),At 42 [(7,.slice p19 sq11.length c20)] (Wd w0 (rowE c_api_Item 33 p19 c20 zs21::frzE w0 Z_ s_::G_)) Y) ?_ ?_
 ·intro K
  refine script_Read.l0.partial_correctness t1 (motive:=fun i12 i13 x=>KR (fun sq11 Y=>∀ (Z_:List Nat) (s_:World) (hM_:Mono (KZ w0 Z0_) s0_ (KZ w0 Z_) s_) (p19:Option Addr) (c20:Nat) (zs21:List (G_api_Item×S_api_Item)) (hz22:List.map Prod.snd zs21=sq11) (ha23:∀ z∈zs21,NK_api_Item (KZ w0 Z_) s_ z),At 42 [(7,.slice p19 sq11.length c20)] (Wd w0 (rowE c_api_Item 33 p19 c20 zs21::frzE w0 Z_ s_::G_)) Y) _ 0 r x→Round (fun Y=>∀ (Z_:List Nat) (s_:World) (hM_:Mono (KZ w0 Z0_) s0_ (KZ w0 Z_) s_) (p14:Option Addr) (c15:Nat) (zs16:List (G_api_Item×S_api_Item)) (hz17:List.map Prod.snd zs16=i12) (ha18:∀ z∈zs16,NK_api_Item (KZ w0 Z_) s_ z),At 42 [(7,.slice p14 i12.length c15),(19,.slice p2 t1.1.length c3),(20,.int .i64 (t1.1.length:Int)),(21,.int .i64 i13)] (Wd w0 (rowE c_api_Item 33 p14 c15 zs16::rowE cStr 9 p2 c3 t1.1::frzE w0 Z_ s_::G_)) Y) _ _ _) ?_ _ _ _ hq11 K Z_ s_ hM_ (nn 5) 0 ([]:List (G_api_Item×S_api_Item)) rfl all_nil
  ·clear K hF
   intro g ih i12 i13 x hF K Z_ s_ hM_ p14 c15 zs16 hz17 ha18
   refine at_round ?_
   refine sr (aw xl (nwq [22,21,20,19,7] ?_))
   refine qs ?_
   obtain ⟨h24,hF⟩|⟨h24,hF⟩:=oi hF
   ·refine ct h24 ?_
    refine sn (qs ?_)
    refine qb ?_
    refine sr (am ?_)
    obtain ⟨h25,hF⟩:=gd hF
    refine at_pure (φ:=∃ b o,p2=some ⟨b,o,none⟩) (fun _ hw=>row_ptr (hw.own (.s .z)).row h25) ?_
    rintro ⟨b27,o28,hp26⟩
    refine aw (r_idx underlying38 sizeOf9 rfl rfl h25 hp26) ?_
    refine aw (r_load_cell isAgg9 rfl (fun _ hw=>row_cell0 (W:=fun w1=>w1=_) (fun w1 h=>by subst h;exact Below.refl _ _) (hw.own (.s .z)).row h25 hp26 rfl _ rfl)) ?_
    refine aa (aa (nwx [21,20,19,9,8,7] ?_))
    refine am ?_
    obtain ⟨t29,ht29,hF⟩:=bM hF
    refine at_front (.s .z) ?_
    refine at_front (.s .z) ?_
    refine at_front (.s (.s .z)) ?_
    refine at_callZ (γ:=G_api_Item) (V:=fun z=>.tuple #[.agg (Cd.cs c_api_Item (z,t29.1)).toArray,.int .i64 t29.2]) (Φ:=fun K s z=>NK_api_Item K s (z,t29.1)) func25 rfl (by kernel_rfl) rfl rfl (fun w hw=>script_Parse_ok ht29 hw hg_bytealg_MaxLen hg_strconv_ErrRange hg_strconv_ErrSyntax hg_strconv_uint64pow10) ?_
    intro Z_ s_ g31 hm30 hk32
    replace hM_:=Mono.mono hM_ hm30
    replace ha18:=fun z hz=>NK_api_Item.mono (ha18 z hz) hm30
    refine am ?_
    refine aw xe (aw xe ?_)
    refine al (cs:=Cd.cs c_api_Item zv10) zeroValue33 ?_
    intro b33
    refine at_store (c:=c_api_Item) (z:=(g31,t29.1)) .z lw sizeOf33 rfl rfl rfl ?_
    refine aa (nt (qs (sr (am (aw xn (nwq [32,21,20,19,11,10,8,7] ?_))))))
    obtain ⟨h34,hF⟩|⟨h34,hF⟩:=oi hF
    ·refine ct h34 ?_
     refine sr (am (aw xa (am (aa (aa (aa (qn (dz ?_))))))))
     refine at_drop (H:=_) (.s .z) ?_
     refine at_drop (H:=_) (.s .z) ?_
     refine wq [4,3,2] ?_
     refine tn (qt ?_)
     refine tr (br (tr (tr (br (tr ?_)))))
     obtain rfl:=os hF
     subst K
     exact at_return3 rfl rfl rfl rfl (fun w1 hw=>⟨Z_,s_,(none,0),hM_,rfl,NRowK.nil ..,hw⟩)
    refine cf h34 ?_
    refine sn (qr (am ?_))
    refine aw (r_load_aggc (c:=c_api_Item) (z:=(g31,t29.1)) isAgg33 sizeOf33 rfl (lens_cell .z lw)) ?_
    refine at_litL (c:=c_api_Item) ([zv10]:List (G_api_Item×S_api_Item)) ([(g31,t29.1)]:List (G_api_Item×S_api_Item)) underlying35 sizeOf33 zeroValue33 rfl rfl rfl (by kernel_rfl) (fill_step (c:=c_api_Item) (z:=(g31,t29.1)) rfl (Lens.all c_api_Item ([zv10]:List (G_api_Item×S_api_Item)) 0 (by first | decide | exact Nat.le_of_ble_eq_true rfl)) rfl rfl) rfl ?_
    intro b35
    obtain ⟨h36,hF⟩:=gd hF
    refine at_appendN (z:=.agg (Cd.cs c_api_Item zv10).toArray) (c:=c_api_Item) (ys:=([t29.1]:List S_api_Item)) (us:=([(g31,t29.1)]:List (G_api_Item×S_api_Item))) (Φ:=fun z=>NK_api_Item (KZ w0 Z_) s_ z) (.s (.s (.s .z))) hz17 rfl ha18 (all_cons hk32 all_nil) underlying35 infoSJ33 (by kernel_rfl) (by kernel_rfl) rfl rfl rfl rfl (fun _ hw=>cells_src (hw.ok (Upd.mem .z))) (by kernel_rfl) h36 (app_small h36) rfl ?_
    intro p37 c38 zs41 hz39 ha40
    refine aa (qn (dz (dz (wq [21,20,19,7] ?_))))
    refine bm ?_
    refine qr (aw xa (am (nwq [21,20,19,7] ?_)))
    refine at_front (.s (.s .z)) ?_
    refine at_front (.s (.s .z)) ?_
    exact at_weak_k (ih _ _ _ hF K Z_ s_ hM_ p37 c38 zs41 hz39 ha40) ⟨rfl,rfl,rfl,rfl,trivial⟩
   refine cf h24 ?_
   refine at_exit ?_
   refine te (te ?_)
   refine at_drop (H:=_) (.s .z) ?_
   obtain rfl:=os hF
   exact at_weak_k (K Z_ s_ hM_ p14 c15 zs16 hz17 ha18) ⟨rfl,trivial⟩
 cases q11 with
 | ret r'=>exact os hF
 | nx sq11 =>
  intro Z_ s_ hM_ p19 c20 zs21 hz22 ha23
  refine at_blk_same ?_
  refine tn (sr (am (aa (aa (aa (nwq [4,3,2] ?_))))))
  refine qt ?_
  refine at_freeze .z ?_
  intro Z_ s_ hm42 hk43
  replace hM_:=Mono.mono hM_ hm42
  replace ha23:=fun z hz=>NK_api_Item.mono (ha23 z hz) hm42
  have hK44:NKR_api_Item (KZ w0 Z_) s_ p19 c20 sq11:=⟨zs21,hz22,hk43,ha23⟩
  have K:=os hF
  subst K
  exact at_return3 rfl rfl rfl rfl (fun w1 hw=>⟨Z_,s_,(p19,c20),hM_,rfl,hK44,hw⟩)
def crawlwaylaw50_ScriptReads.l0(x0:List S_api_Item)(i9:Bool)(i10:ByteArray)(i11:Int):Option (Bool×ByteArray) :=
 if (decide (i11<(x0.length:Int)))=true then (if i9=true then (if (0:Int)≤i11∧i11<(x0.length:Int) then crawlwayref50_Right (lget x0 i11)>>=fun t25=>if t25=true then (if (0:Int)≤i11∧i11<(x0.length:Int) then crawlwayref50_Text (lget x0 i11)>>=fun t38=>if i10.size+t38.size≤140737488355328 then if (i10++t38).size+(⟨#[10]⟩:ByteArray).size≤140737488355328 then crawlwaylaw50_ScriptReads.l0 x0 t25 ((i10++t38)++(⟨#[10]⟩:ByteArray)) (wr .i64 (i11+1)) else none else none else none) else (crawlwaylaw50_ScriptReads.l0 x0 t25 i10 (wr .i64 (i11+1))) else none) else (crawlwaylaw50_ScriptReads.l0 x0 false i10 (wr .i64 (i11+1)))) else (some (i9,i10))
 partial_fixpoint
def crawlwaylaw50_ScriptReads.l1(x0:List S_api_Item)(t52:List S_api_Item×Int×Int)(i62:Int):Option (Ctl (Bool) (Unit)) :=
 if (decide (i62<(x0.length:Int)))=true then (if (0:Int)≤i62∧i62<(t52.1.length:Int) then if (0:Int)≤i62∧i62<(x0.length:Int) then crawlwayref50_Same (lget t52.1 i62) (lget x0 i62)>>=fun t86=>if (!t86)=true then (some (.ret false)) else (crawlwaylaw50_ScriptReads.l1 x0 t52 (wr .i64 (i62+1))) else none else none) else (some (.nx ()))
 partial_fixpoint
def crawlwaylaw50_ScriptReads.l2(t88:List S_api_Item×Int×Int)(t101:List ByteArray)(i105:Int):Option (Ctl (Bool) (Unit)) :=
 if (decide (i105<(t101.length:Int)))=true then (if (0:Int)≤i105∧i105<(t101.length:Int) then crawlwayref50_Parse (lget t101 i105)>>=fun t111=>if (t111.2 != 0)=true then (if ((t88.1.length:Int)==0)=true then (if (t88.2.1==wr .i64 (i105+1))=true then (if (t88.2.2==t111.2)=true then (crawlwaylaw50_alive>>=fun t120=>some (.ret t120)) else (some (.ret false))) else (some (.ret false))) else (some (.ret false))) else (crawlwaylaw50_ScriptReads.l2 t88 t101 (wr .i64 (i105+1))) else none) else (some (.nx ()))
 partial_fixpoint
def crawlwaylaw50_ScriptReads(x0:List S_api_Item)(x1:ByteArray):Option (Bool) :=
 (crawlwayref49_Large x0>>=fun t3=>if t3=true then (crawlwaylaw50_alive>>=fun t5=>some (.ret t5)) else (if (decide ((x1.size:Int)>9000))=true then (crawlwaylaw50_alive>>=fun t7=>some (.ret t7)) else (some (.nx ()))):Option (Ctl (Bool) (Unit)))>>=fun q1=>match q1 with | .ret r'=>some r' | .nx sq1=>(crawlwaylaw50_ScriptReads.l0 x0 true (⟨#[]⟩) 0>>=fun q8=>script_Script x0>>=fun t41=>(if (!q8.1)=true then (if (!seq t41.1 (⟨#[]⟩:ByteArray))=true then (some (.ret false)) else (if (t41.2 != 1)=true then (some (.ret false)) else (some (.nx ())))) else (if (!seq t41.1 q8.2)=true then (some (.ret false)) else (if (t41.2 != 0)=true then (some (.ret false)) else (some (.nx ())))):Option (Ctl (Bool) (Unit)))>>=fun q42=>match q42 with | .ret r'=>some r' | .nx sq42=>((if q8.1=true then (script_Read t41.1>>=fun t52=>(if ((t52.1.length:Int) != (x0.length:Int))=true then (some (.ret false)) else (if (t52.2.1 != 0)=true then (some (.ret false)) else (if (t52.2.2 != 0)=true then (some (.ret false)) else (some (.nx ())))):Option (Ctl (Bool) (Unit)))>>=fun q56=>match q56 with | .ret r'=>some (.ret r') | .nx sq56=>(crawlwaylaw50_ScriptReads.l1 x0 t52 0>>=fun q61=>match q61 with | .ret r'=>some (.ret r') | .nx sq61=>(some (.nx ())))) else (some (.nx ())):Option (Ctl (Bool) (Unit)))>>=fun q49=>match q49 with | .ret r'=>some r' | .nx sq49=>(script_Read x1>>=fun t88=>(if (decide ((x1.size:Int)>0))=true then (if (0:Int)≤wr .i64 ((x1.size:Int)-1)∧wr .i64 ((x1.size:Int)-1)<(x1.size:Int) then if (bt x1 (wr .i64 ((x1.size:Int)-1)) != 10)=true then (if ((t88.1.length:Int)==0)=true then (if (t88.2.1==0)=true then (if (t88.2.2==5)=true then (crawlwaylaw50_alive>>=fun t100=>some (.ret t100)) else (some (.ret false))) else (some (.ret false))) else (some (.ret false))) else (some (.nx ())) else none) else (some (.nx ())):Option (Ctl (Bool) (Unit)))>>=fun q92=>match q92 with | .ret r'=>some r' | .nx sq92=>(crawlwayref06_Loose x1>>=fun t101=>crawlwaylaw50_ScriptReads.l2 t88 t101 0>>=fun q104=>match q104 with | .ret r'=>some r' | .nx sq104=>(if ((t88.1.length:Int)==(t101.length:Int))=true then (if (t88.2.1==0)=true then (if (t88.2.2==0)=true then (crawlwaylaw50_alive>>=fun t124=>some t124) else (some false)) else (some false)) else (some false))))))
set_option maxRecDepth 20000 in
theorem crawlwaylaw50_ScriptReads_ok(x0:List S_api_Item)(p0_:Option Addr)(c0_:Nat)(x1:ByteArray)(r:Bool)(hF:crawlwaylaw50_ScriptReads x0 x1=some r)(w:World)(hr0:NR_api_Item w p0_ c0_ x0)(hg_bytealg_MaxLen:GV_bytealg_MaxLen w)(hg_strconv_ErrRange:GV_strconv_ErrRange w)(hg_strconv_ErrSyntax:GV_strconv_ErrSyntax w)(hg_strconv_uint64pow10:GV_strconv_uint64pow10 w) :
    Calls Tryz.prog 9 #[.slice p0_ x0.length c0_,.string x1] w (fun e w'=>e=.returned (.bool r)∧Below w.heap.size w w'):=by
 unfold crawlwaylaw50_ScriptReads at hF
 refine ce (l:=[.slice p0_ x0.length c0_,.string x1]) func9 rfl rfl ?_
 refine at_start ?_
 refine at_frz0 ?_
 intro Z_ s_ hB_
 have hz0:=NKR_api_Item.mono (NKR_api_Item.of hr0) hB_
 refine sr (aa (nwq [1,0] ?_))
 obtain ⟨q1,hq1,hF⟩:=bM hF
 refine at_join (q:=q1) (r:=r) (A:=fun (_:Unit) Y=>At 197 [(0,.slice p0_ x0.length c0_),(1,.string x1)] (Wd w [frzE w Z_ s_]) Y) ?_ ?_
 ·intro Y K
  replace hF:=hq1
  refine sr (am ?_)
  obtain ⟨t3,ht3,hF⟩:=bM hF
  refine cB func10 rfl (fun w hw=>callB_of_call0 (crawlwayref49_Large_ok _ _ _ _ ht3 w (NKR_api_Item.n (NKR_api_Item.mono hz0 (frz_mono .z hw))))) ?_
  refine am ?_
  obtain ⟨h4,hF⟩|⟨h4,hF⟩:=oi hF
  ·refine fx 23 h4 ?_
   refine gn ?_
   refine gn ?_
   refine gn ?_
   refine aw xp (nwq [27,1,0] ?_)
   refine ct rfl ?_
   refine sr ?_
   obtain ⟨t5,ht5,hF⟩:=bM hF
   refine cB func11 rfl (fun w hw=>crawlwaylaw50_alive_ok  _ ht5 w (hg_bytealg_MaxLen.on hw.below) (hg_strconv_ErrRange.on hw.below) (hg_strconv_ErrSyntax.on hw.below) (hg_strconv_uint64pow10.on hw.below)) ?_
   refine aa (nwq [4] ?_)
   refine rt ?_
   obtain rfl:=os hF
   subst K
   exact r1 wb
  refine fx 23 h4 ?_
  refine gy ?_
  refine am ?_
  refine gy ?_
  refine aw (r_len_str underlying9 rfl) ?_
  refine gy ?_
  refine aw (r_igtr rfl rfl) ?_
  refine aw xp (nwq [27,1,0] ?_)
  obtain ⟨h6,hF⟩|⟨h6,hF⟩:=oi hF
  ·refine ct h6 ?_
   refine sr ?_
   obtain ⟨t7,ht7,hF⟩:=bM hF
   refine cB func11 rfl (fun w hw=>crawlwaylaw50_alive_ok  _ ht7 w (hg_bytealg_MaxLen.on hw.below) (hg_strconv_ErrRange.on hw.below) (hg_strconv_ErrSyntax.on hw.below) (hg_strconv_uint64pow10.on hw.below)) ?_
   refine aa (nwq [4] ?_)
   refine rt ?_
   obtain rfl:=os hF
   subst K
   exact r1 wb
  refine cf h6 ?_
  refine sn ?_
  obtain rfl:=os hF
  exact at_weak_k K ⟨rfl,rfl,trivial⟩
 cases q1 with
 | ret r' =>
  exact os hF
 | nx sq1 =>
  skip
  refine sr (aa (ns (aa (nt (qs (sr (aa (nwq [7,6,5,1,0] ?_))))))))
  refine qb ?_
  obtain ⟨q8,hq8,hF⟩:=bM hF
  refine wq [7,6,5,1,0] ?_
  refine at_loop_n (B:=0) (A:=fun Y=>At 197 [(0,.slice p0_ x0.length c0_),(1,.string x1),(5,.bool q8.1),(6,.string q8.2)] (Wd w [frzE w Z_ s_]) Y) ?_ ?_
  ·intro K
   refine crawlwaylaw50_ScriptReads.l0.partial_correctness x0 (motive:=fun i9 i10 i11 x=>KN (fun Y=>At 197 [(0,.slice p0_ x0.length c0_),(1,.string x1),(5,.bool x.1),(6,.string x.2)] (Wd w [frzE w Z_ s_]) Y) _ 0→Round (fun Y=>At 197 [(0,.slice p0_ x0.length c0_),(1,.string x1),(5,.bool i9),(6,.string i10),(7,.int .i64 i11)] (Wd w [frzE w Z_ s_]) Y) _ _ _) ?_ _ _ _ _ hq8 K
   ·clear K hF
    intro g ih i9 i10 i11 x hF K
    refine at_round ?_
    refine qs (sr (am (am ?_)))
    refine aw (r_len_sl underlying35 rfl) ?_
    refine aw xl (nwq [32,7,6,5,1,0] ?_)
    obtain ⟨h12,hF⟩|⟨h12,hF⟩:=oi hF
    ·refine ct h12 ?_
     refine sn (qs ?_)
     refine qb ?_
     refine sr (am (am ?_))
     obtain ⟨h13,hF⟩|⟨h13,hF⟩:=oi hF
     ·refine fx 36 h13 ?_
      refine gy ?_
      refine am ?_
      refine gy ?_
      refine am ?_
      refine gy ?_
      obtain ⟨h14,hF⟩:=gd hF
      obtain ⟨zs18,hz19,hr20,hn21⟩:=id hz0
      obtain ⟨b16,o17,hp15⟩:=row_ptr (RowK.row hr20) (zidx hz19 h14)
      obtain ⟨g22,hg23⟩:=zget hz19 i11
      have hN24:NK_api_Item (KZ w Z_) s_ (g22,lget x0 i11):=nz (N:=NK_api_Item (KZ w Z_)) hg23 hn21 (zidx hz19 h14)
      refine aw (r_idx underlying35 sizeOf33 rfl rfl h14 hp15) ?_
      refine gy ?_
      refine aw (r_load_aggc (c:=c_api_Item) (z:=(g22,lget x0 i11)) isAgg33 sizeOf33 rfl (fun w1 hw=>ncell (W:=fun w1=>w1=_) (fun w1 h=>by subst h;exact Below.refl _ _) (RowK.row (RowK.mono hr20 (frz_mono .z hw))) (zidx hz19 h14) hp15 hg23 _ rfl)) ?_
      refine gy ?_
      obtain ⟨t25,ht25,hF⟩:=bM hF
      refine cB func22 rfl (fun w hw=>crawlwayref50_Right_ok _ _ _ ht25 w (NK_api_Item.n (NK_api_Item.mono hN24 (frz_mono .z hw)))) ?_
      refine aw xp (aa (ns (am (nwq [43,7,6,5,1,0] ?_))))
      obtain ⟨h26,hF⟩|⟨h26,hF⟩:=oi hF
      ·refine ct h26 ?_
       refine qr (am (am (am ?_)))
       obtain ⟨h27,hF⟩:=gd hF
       obtain ⟨zs31,hz32,hr33,hn34⟩:=id hz0
       obtain ⟨b29,o30,hp28⟩:=row_ptr (RowK.row hr33) (zidx hz32 h27)
       obtain ⟨g35,hg36⟩:=zget hz32 i11
       have hN37:NK_api_Item (KZ w Z_) s_ (g35,lget x0 i11):=nz (N:=NK_api_Item (KZ w Z_)) hg36 hn34 (zidx hz32 h27)
       refine aw (r_idx underlying35 sizeOf33 rfl rfl h27 hp28) ?_
       refine aw (r_load_aggc (c:=c_api_Item) (z:=(g35,lget x0 i11)) isAgg33 sizeOf33 rfl (fun w1 hw=>ncell (W:=fun w1=>w1=_) (fun w1 h=>by subst h;exact Below.refl _ _) (RowK.row (RowK.mono hr33 (frz_mono .z hw))) (zidx hz32 h27) hp28 hg36 _ rfl)) ?_
       obtain ⟨t38,ht38,hF⟩:=bM hF
       refine cB func26 rfl (fun w hw=>crawlwayref50_Text_ok _ _ _ ht38 w (NK_api_Item.n (NK_api_Item.mono hN37 (frz_mono .z hw)))) ?_
       obtain ⟨h39,hF⟩:=gd hF
       refine aw (r_concat rfl rfl h39) ?_
       obtain ⟨h40,hF⟩:=gd hF
       refine aw (r_concat rfl rfl h40) ?_
       refine aa (qn (wq [7,6,5,1,0] ?_))
       refine bm ?_
       refine qr (am (aw xa (aa (nwq [7,6,5,1,0] ?_))))
       exact at_weak_k (ih _ _ _ _ hF K) ⟨rfl,rfl,rfl,rfl,rfl,trivial⟩
      ·refine cf h26 ?_
       refine at_skip ?_
       refine bm ?_
       refine qr (am (aw xa (aa (nwq [7,6,5,1,0] ?_))))
       exact at_weak_k (ih _ _ _ _ hF K) ⟨rfl,rfl,rfl,rfl,rfl,trivial⟩
     ·refine fx 36 h13 ?_
      refine gn ?_
      refine gn ?_
      refine gn ?_
      refine gn ?_
      refine gn ?_
      refine aw xp (aa (ns (am (nwq [43,7,6,5,1,0] ?_))))
      refine cf rfl ?_
      refine at_skip ?_
      refine bm ?_
      refine qr (am (aw xa (aa (nwq [7,6,5,1,0] ?_))))
      exact at_weak_k (ih _ _ _ _ hF K) ⟨rfl,rfl,rfl,rfl,rfl,trivial⟩
    ·refine cf h12 ?_
     refine at_exit ?_
     refine te (te ?_)
     obtain rfl:=os hF
     exact at_weak_k K ⟨rfl,rfl,rfl,rfl,trivial⟩
  ·skip
   skip
   refine at_blk_same ?_
   refine tn (sr (am ?_))
   obtain ⟨t41,ht41,hF⟩:=bM hF
   refine cB func31 rfl (fun w hw=>script_Script_ok _ _ _ _ ht41 w (NKR_api_Item.n (NKR_api_Item.mono hz0 (frz_mono .z hw))) (hg_bytealg_MaxLen.on hw.below) (hg_strconv_ErrRange.on hw.below) (hg_strconv_ErrSyntax.on hw.below) (hg_strconv_uint64pow10.on hw.below)) ?_
   refine am ?_
   refine aw xe (aw xe (aa (aa (nwq [9,8,6,5,1,0] ?_))))
   obtain ⟨q42,hq42,hF⟩:=bM hF
   refine at_join (q:=q42) (r:=r) (A:=fun (_:Unit) Y=>At 197 [(0,.slice p0_ x0.length c0_),(1,.string x1),(5,.bool q8.1),(8,.string t41.1)] (Wd w [frzE w Z_ s_]) Y) ?_ ?_
   ·intro Y K
    replace hF:=hq42
    refine sr (am ?_)
    refine aw (r_not rfl) ?_
    refine am ?_
    obtain ⟨h44,hF⟩|⟨h44,hF⟩:=oi hF
    ·refine fx 59 h44 ?_
     refine gy ?_
     refine am ?_
     refine gy ?_
     refine aw (r_sneq rfl rfl) ?_
     refine gy ?_
     refine am ?_
     obtain ⟨h45,hF⟩|⟨h45,hF⟩:=oi hF
     ·refine fx 62 h45 ?_
      refine gn ?_
      refine gn ?_
      refine gy ?_
      refine aw xp (aw xp (am ?_))
      refine gn ?_
      refine gn ?_
      refine at_guard_undef rfl rfl rfl rfl ?_
      refine at_guard_undef rfl rfl rfl rfl ?_
      refine at_guard_undef rfl rfl rfl rfl ?_
      refine at_guard_undef rfl rfl rfl rfl ?_
      refine at_guard_undef rfl rfl rfl rfl ?_
      refine at_guard_undef rfl rfl rfl rfl ?_
      refine at_guard_undef rfl rfl rfl rfl ?_
      refine gn ?_
      refine aw xp (nwq [78,8,5,1,0] ?_)
      refine ct rfl ?_
      refine sr (aa (nwq [4] ?_))
      refine rt ?_
      obtain rfl:=os hF
      subst K
      exact r1 wb
     ·refine fx 62 h45 ?_
      refine gy ?_
      refine am ?_
      refine gy ?_
      refine aw xn ?_
      refine gy ?_
      refine aw xp (aw xp (am ?_))
      obtain ⟨h46,hF⟩|⟨h46,hF⟩:=oi hF
      ·refine fx 67 h46 ?_
       refine gn ?_
       refine gn ?_
       refine at_guard_undef rfl rfl rfl rfl ?_
       refine at_guard_undef rfl rfl rfl rfl ?_
       refine at_guard_undef rfl rfl rfl rfl ?_
       refine at_guard_undef rfl rfl rfl rfl ?_
       refine at_guard_undef rfl rfl rfl rfl ?_
       refine at_guard_undef rfl rfl rfl rfl ?_
       refine at_guard_undef rfl rfl rfl rfl ?_
       refine gn ?_
       refine aw xp (nwq [78,8,5,1,0] ?_)
       refine ct rfl ?_
       refine sr (aa (nwq [4] ?_))
       refine rt ?_
       obtain rfl:=os hF
       subst K
       exact r1 wb
      ·refine fx 67 h46 ?_
       refine gy ?_
       refine am ?_
       refine gy ?_
       refine am ?_
       refine at_fix (g:=69) rfl (nb h44) ?_
       refine gn ?_
       refine gn ?_
       refine gn ?_
       refine gn ?_
       refine at_guard_undef rfl rfl rfl rfl ?_
       refine at_guard_undef rfl rfl rfl rfl ?_
       refine gn ?_
       refine gy ?_
       refine aw xp (aw xp (nwq [78,8,5,1,0] ?_))
       refine cf rfl ?_
       refine sn ?_
       obtain rfl:=os hF
       exact at_weak_k K ⟨rfl,rfl,rfl,rfl,trivial⟩
    ·refine fx 59 h44 ?_
     refine gn ?_
     refine gn ?_
     refine gn ?_
     refine at_guard_undef rfl rfl rfl rfl ?_
     refine at_guard_undef rfl rfl rfl rfl ?_
     refine gn ?_
     refine aw xp (am ?_)
     refine gy ?_
     refine am ?_
     refine gy ?_
     refine am ?_
     refine at_fix (g:=69) rfl (nb h44) ?_
     refine gy ?_
     refine am ?_
     refine gy ?_
     refine am ?_
     refine gy ?_
     refine aw (r_sneq rfl rfl) ?_
     refine gy ?_
     refine am ?_
     obtain ⟨h47,hF⟩|⟨h47,hF⟩:=oi hF
     ·refine fx 73 h47 ?_
      refine gn ?_
      refine gn ?_
      refine gy ?_
      refine aw xp ?_
      refine gy ?_
      refine aw xp (aw xp (nwq [78,8,5,1,0] ?_))
      refine ct rfl ?_
      refine sr (aa (nwq [4] ?_))
      refine rt ?_
      obtain rfl:=os hF
      subst K
      exact r1 wb
     ·refine fx 73 h47 ?_
      refine gy ?_
      refine am ?_
      refine gy ?_
      refine aw xn ?_
      refine gy ?_
      refine aw xp ?_
      refine gy ?_
      refine aw xp (aw xp (nwq [78,8,5,1,0] ?_))
      obtain ⟨h48,hF⟩|⟨h48,hF⟩:=oi hF
      ·refine ct h48 ?_
       refine sr (aa (nwq [4] ?_))
       refine rt ?_
       obtain rfl:=os hF
       subst K
       exact r1 wb
      ·refine cf h48 ?_
       refine sn ?_
       obtain rfl:=os hF
       exact at_weak_k K ⟨rfl,rfl,rfl,rfl,trivial⟩
   ·cases q42 with
    | ret r' =>
     exact os hF
    | nx sq42 =>
     skip
     obtain ⟨q49,hq49,hF⟩:=bM hF
     refine at_join (q:=q49) (r:=r) (A:=fun (_:Unit) Y=>∀ (Z_:List Nat) (s_:World) (hz0:NKR_api_Item (KZ w Z_) s_ p0_ c0_ x0),At 197 [(1,.string x1)] (Wd w [frzE w Z_ s_]) Y) ?_ ?_
     ·intro Y K
      replace hF:=hq49
      refine sr (am (nwq [79,8,1,0] ?_))
      obtain ⟨h51,hF⟩|⟨h51,hF⟩:=oi hF
      ·refine ct h51 ?_
       refine sr (am ?_)
       obtain ⟨t52,ht52,hF⟩:=bM hF
       refine at_callZ (γ:=Option Addr×Nat) (V:=fun z=>.tuple #[.slice z.1 (List.length t52.1) z.2,.int .i64 t52.2.1,.int .i64 t52.2.2]) (Φ:=fun K s z=>NKR_api_Item K s z.1 z.2 t52.1) func32 rfl (by kernel_rfl) rfl rfl (fun w hw=>script_Read_ok ht52 hw hg_bytealg_MaxLen hg_strconv_ErrRange hg_strconv_ErrSyntax hg_strconv_uint64pow10) ?_
       intro Z_ s_ g54 hm53 hk55
       replace hz0:=NKR_api_Item.mono hz0 hm53
       refine am ?_
       refine aw xe (aw xe (aw xe (aa (aa (aa (nwq [12,11,10,1,0] ?_))))))
       obtain ⟨q56,hq56,hF⟩:=bM hF
       refine at_join (q:=q56) (r:=r) (A:=fun (_:Unit) Y=>At 197 [(0,.slice p0_ x0.length c0_),(1,.string x1),(10,.slice g54.1 t52.1.length g54.2)] (Wd w [frzE w Z_ s_]) Y) ?_ ?_
       ·intro Y K
        replace hF:=hq56
        refine sr (am ?_)
        refine aw (r_len_sl underlying35 rfl) ?_
        refine am ?_
        refine aw (r_len_sl underlying35 rfl) ?_
        refine aw xn (am ?_)
        obtain ⟨h58,hF⟩|⟨h58,hF⟩:=oi hF
        ·refine fx 91 h58 ?_
         refine gn ?_
         refine gn ?_
         refine aw xp (am ?_)
         refine gn ?_
         refine gn ?_
         refine aw xp (nwq [98,10,1,0] ?_)
         refine ct rfl ?_
         refine sr (aa (nwq [4] ?_))
         refine qt ?_
         refine tr (tr ?_)
         obtain rfl:=os hF
         subst K
         exact r1 wb
        ·refine fx 91 h58 ?_
         refine gy ?_
         refine am ?_
         refine gy ?_
         refine aw xn (aw xp (am ?_))
         obtain ⟨h59,hF⟩|⟨h59,hF⟩:=oi hF
         ·refine fx 95 h59 ?_
          refine gn ?_
          refine gn ?_
          refine aw xp (nwq [98,10,1,0] ?_)
          refine ct rfl ?_
          refine sr (aa (nwq [4] ?_))
          refine qt ?_
          refine tr (tr ?_)
          obtain rfl:=os hF
          subst K
          exact r1 wb
         ·refine fx 95 h59 ?_
          refine gy ?_
          refine am ?_
          refine gy ?_
          refine aw xn (aw xp (nwq [98,10,1,0] ?_))
          obtain ⟨h60,hF⟩|⟨h60,hF⟩:=oi hF
          ·refine ct h60 ?_
           refine sr (aa (nwq [4] ?_))
           refine qt ?_
           refine tr (tr ?_)
           obtain rfl:=os hF
           subst K
           exact r1 wb
          ·refine cf h60 ?_
           refine sn ?_
           obtain rfl:=os hF
           exact at_weak_k K ⟨rfl,rfl,rfl,trivial⟩
       ·cases q56 with
        | ret r' =>
         obtain rfl:=os hF;exact K
        | nx sq56 =>
         skip
         refine sr (aa (nwq [13,10,1,0] ?_))
         refine qb ?_
         obtain ⟨q61,hq61,hF⟩:=bM hF
         refine wq [13,10,1,0] ?_
         refine at_loop_r (B:=2) (r:=r) (q:=q61) (A:=fun (_:Unit) Y=>At 197 [(1,.string x1)] (Wd w [frzE w Z_ s_]) Y) ?_ ?_
         ·intro K
          refine crawlwaylaw50_ScriptReads.l1.partial_correctness x0 t52 (motive:=fun i62 x=>KR (fun (_:Unit) Y=>At 197 [(1,.string x1)] (Wd w [frzE w Z_ s_]) Y) _ 2 r x→Round (fun Y=>At 197 [(0,.slice p0_ x0.length c0_),(1,.string x1),(10,.slice g54.1 t52.1.length g54.2),(13,.int .i64 i62)] (Wd w [frzE w Z_ s_]) Y) _ _ _) ?_ _ _ hq61 K
          ·clear K hF
           intro g ih i62 x hF K
           refine at_round ?_
           refine qs (sr (am (am ?_)))
           refine aw (r_len_sl underlying35 rfl) ?_
           refine aw xl (nwq [102,13,10,1,0] ?_)
           obtain ⟨h63,hF⟩|⟨h63,hF⟩:=oi hF
           ·refine ct h63 ?_
            refine sn (qs ?_)
            refine qb ?_
            refine qs ?_
            refine at_draw (by kernel_rfl) (by kernel_rfl) (fun _ h=>h.drew) ?_
            refine atq_val rfl rfl rfl (r_move rfl) ?_
            refine atq_val rfl rfl rfl (r_move rfl) ?_
            obtain ⟨h64,hF⟩:=gd hF
            obtain ⟨zs68,hz69,hr70,hn71⟩:=id hk55
            obtain ⟨b66,o67,hp65⟩:=row_ptr (RowK.row hr70) (zidx hz69 h64)
            obtain ⟨g72,hg73⟩:=zget hz69 i62
            have hN74:NK_api_Item (KZ w Z_) s_ (g72,lget t52.1 i62):=nz (N:=NK_api_Item (KZ w Z_)) hg73 hn71 (zidx hz69 h64)
            refine atq_val rfl rfl rfl (r_idx underlying35 sizeOf33 rfl rfl h64 hp65) ?_
            refine atq_val rfl rfl rfl (r_load_aggc (c:=c_api_Item) (z:=(g72,lget t52.1 i62)) isAgg33 sizeOf33 rfl (fun w1 hw=>ncell (W:=fun w1=>w1=_) (fun w1 h=>by subst h;exact Below.refl _ _) (RowK.row (RowK.mono hr70 (frz_mono .z hw))) (zidx hz69 h64) hp65 hg73 _ rfl)) ?_
            refine atq_val rfl rfl rfl (r_move rfl) ?_
            refine atq_val rfl rfl rfl (r_move rfl) ?_
            obtain ⟨h75,hF⟩:=gd hF
            obtain ⟨zs79,hz80,hr81,hn82⟩:=id hz0
            obtain ⟨b77,o78,hp76⟩:=row_ptr (RowK.row hr81) (zidx hz80 h75)
            obtain ⟨g83,hg84⟩:=zget hz80 i62
            have hN85:NK_api_Item (KZ w Z_) s_ (g83,lget x0 i62):=nz (N:=NK_api_Item (KZ w Z_)) hg84 hn82 (zidx hz80 h75)
            refine atq_val rfl rfl rfl (r_idx underlying35 sizeOf33 rfl rfl h75 hp76) ?_
            refine atq_val rfl rfl rfl (r_load_aggc (c:=c_api_Item) (z:=(g83,lget x0 i62)) isAgg33 sizeOf33 rfl (fun w1 hw=>ncell (W:=fun w1=>w1=_) (fun w1 h=>by subst h;exact Below.refl _ _) (RowK.row (RowK.mono hr81 (frz_mono .z hw))) (zidx hz80 h75) hp76 hg84 _ rfl)) ?_
            obtain ⟨t86,ht86,hF⟩:=bM hF
            refine atq_call func13 rfl (by kernel_rfl) rfl rfl (fun w hw=>(crawlwayref50_Same_ok _ _ _ _ _ ht86 w (NK_api_Item.n (NK_api_Item.mono hN74 (frz_mono .z hw))) (NK_api_Item.n (NK_api_Item.mono hN85 (frz_mono .z hw)))).mono fun _ _ h=>⟨h.1,hw.call h.2⟩) ?_
            refine atq_val rfl rfl rfl (r_not rfl) ?_
            refine atq_nil ?_
            refine wq [114,13,10,1,0] ?_
            refine tn ?_
            obtain ⟨h87,hF⟩|⟨h87,hF⟩:=oi hF
            ·refine ct h87 ?_
             refine sr (aa (nwq [4] ?_))
             refine qt ?_
             refine br (tr (tr (br (tr ?_))))
             obtain rfl:=os hF
             subst K
             exact r1 wb
            ·refine cf h87 ?_
             refine at_skip ?_
             refine bm ?_
             refine qr (am (aw xa (aa (nwq [13,10,1,0] ?_))))
             exact at_weak_k (ih _ _ hF K) ⟨rfl,rfl,rfl,rfl,trivial⟩
           ·refine cf h63 ?_
            refine at_exit ?_
            refine te (te ?_)
            obtain rfl:=os hF
            exact at_weak_k K ⟨rfl,trivial⟩
         ·cases q61 with
          | ret r'=>obtain rfl:=os hF;exact K
          | nx sq61 =>
           skip
           refine at_blk_same ?_
           refine tn ?_
           obtain rfl:=os hF
           exact at_weak_k (K Z_ s_ hz0) ⟨rfl,trivial⟩
      ·refine cf h51 ?_
       refine sn ?_
       obtain rfl:=os hF
       exact at_weak_k (K Z_ s_ hz0) ⟨rfl,trivial⟩
     ·cases q49 with
      | ret r' =>
       exact os hF
      | nx sq49 =>
       intro Z_ s_ hz0
       refine sr (am ?_)
       obtain ⟨t88,ht88,hF⟩:=bM hF
       refine at_callZ (γ:=Option Addr×Nat) (V:=fun z=>.tuple #[.slice z.1 (List.length t88.1) z.2,.int .i64 t88.2.1,.int .i64 t88.2.2]) (Φ:=fun K s z=>NKR_api_Item K s z.1 z.2 t88.1) func32 rfl (by kernel_rfl) rfl rfl (fun w hw=>script_Read_ok ht88 hw hg_bytealg_MaxLen hg_strconv_ErrRange hg_strconv_ErrSyntax hg_strconv_uint64pow10) ?_
       intro Z_ s_ g90 hm89 hk91
       replace hz0:=NKR_api_Item.mono hz0 hm89
       refine am ?_
       refine aw xe (aw xe (aw xe (aa (aa (aa (nwq [16,15,14,1] ?_))))))
       obtain ⟨q92,hq92,hF⟩:=bM hF
       refine at_join (q:=q92) (r:=r) (A:=fun (_:Unit) Y=>At 197 [(1,.string x1),(14,.slice g90.1 t88.1.length g90.2),(15,.int .i64 t88.2.1),(16,.int .i64 t88.2.2)] (Wd w [frzE w Z_ s_]) Y) ?_ ?_
       ·intro Y K
        replace hF:=hq92
        refine sr (am ?_)
        refine aw (r_len_str underlying9 rfl) ?_
        refine aw (r_igtr rfl rfl) ?_
        refine am ?_
        obtain ⟨h94,hF⟩|⟨h94,hF⟩:=oi hF
        ·refine fx 124 h94 ?_
         refine gy ?_
         refine am ?_
         refine gy ?_
         refine am ?_
         refine gy ?_
         refine aw (r_len_str underlying9 rfl) ?_
         refine gy ?_
         refine aw (r_isub rfl rfl) ?_
         refine gy ?_
         obtain ⟨h95,hF⟩:=gd hF
         refine aw (r_index_str underlying9 rfl rfl h95) ?_
         refine gy ?_
         refine aw xn (aw xp (nwq [131,16,15,14,1] ?_))
         obtain ⟨h96,hF⟩|⟨h96,hF⟩:=oi hF
         ·refine ct h96 ?_
          refine sr (am ?_)
          refine aw (r_len_sl underlying35 rfl) ?_
          refine aw xq (am ?_)
          obtain ⟨h97,hF⟩|⟨h97,hF⟩:=oi hF
          ·refine fx 135 h97 ?_
           refine gy ?_
           refine am ?_
           refine gy ?_
           refine aw xq (aw xp (am ?_))
           obtain ⟨h98,hF⟩|⟨h98,hF⟩:=oi hF
           ·refine fx 139 h98 ?_
            refine gy ?_
            refine am ?_
            refine gy ?_
            refine aw xq (aw xp (am ?_))
            obtain ⟨h99,hF⟩|⟨h99,hF⟩:=oi hF
            ·refine fx 143 h99 ?_
             refine gy ?_
             obtain ⟨t100,ht100,hF⟩:=bM hF
             refine cB func11 rfl (fun w hw=>crawlwaylaw50_alive_ok  _ ht100 w (hg_bytealg_MaxLen.on hw.below) (hg_strconv_ErrRange.on hw.below) (hg_strconv_ErrSyntax.on hw.below) (hg_strconv_uint64pow10.on hw.below)) ?_
             refine aw xp (aa (nwq [4] ?_))
             refine rt ?_
             obtain rfl:=os hF
             subst K
             exact r1 wb
            ·refine fx 143 h99 ?_
             refine gn ?_
             refine aw xp (aa (nwq [4] ?_))
             refine rt ?_
             obtain rfl:=os hF
             subst K
             exact r1 wb
           ·refine fx 139 h98 ?_
            refine gn ?_
            refine gn ?_
            refine aw xp (am ?_)
            refine gn ?_
            refine aw xp (aa (nwq [4] ?_))
            refine rt ?_
            obtain rfl:=os hF
            subst K
            exact r1 wb
          ·refine fx 135 h97 ?_
           refine gn ?_
           refine gn ?_
           refine aw xp (am ?_)
           refine gn ?_
           refine gn ?_
           refine aw xp (am ?_)
           refine gn ?_
           refine aw xp (aa (nwq [4] ?_))
           refine rt ?_
           obtain rfl:=os hF
           subst K
           exact r1 wb
         ·refine cf h96 ?_
          refine sn ?_
          obtain rfl:=os hF
          exact at_weak_k K ⟨rfl,rfl,rfl,rfl,trivial⟩
        ·refine fx 124 h94 ?_
         refine gn ?_
         refine gn ?_
         refine gn ?_
         refine gn ?_
         refine gn ?_
         refine gn ?_
         refine aw xp (nwq [131,16,15,14,1] ?_)
         refine cf rfl ?_
         refine sn ?_
         obtain rfl:=os hF
         exact at_weak_k K ⟨rfl,rfl,rfl,rfl,trivial⟩
       ·cases q92 with
        | ret r' =>
         exact os hF
        | nx sq92 =>
         skip
         refine sr (am ?_)
         obtain ⟨t101,ht101,hF⟩:=bM hF
         refine at_callO (c:=cStr) (e:=9) (ys:=t101) (V:=fun p cap=>.slice p t101.length cap) func33 rfl (by kernel_rfl) rfl rfl (fun w hw=>crawlwayref06_Loose_ok _ _ ht101 w) ?_
         intro p102 c103
         refine aa (nt (qs (sr (aa (nwq [18,17,16,15,14] ?_)))))
         refine qb ?_
         obtain ⟨q104,hq104,hF⟩:=bM hF
         refine wq [18,17,16,15,14] ?_
         refine at_loop_r (B:=4) (r:=r) (q:=q104) (A:=fun (_:Unit) Y=>∀ (Z_:List Nat) (s_:World) (hz0:NKR_api_Item (KZ w Z_) s_ p0_ c0_ x0) (hk91:NKR_api_Item (KZ w Z_) s_ g90.1 g90.2 t88.1),At 197 [(14,.slice g90.1 t88.1.length g90.2),(15,.int .i64 t88.2.1),(16,.int .i64 t88.2.2),(17,.slice p102 t101.length c103)] (Wd w [rowE cStr 9 p102 c103 t101,frzE w Z_ s_]) Y) ?_ ?_
         ·intro K
          refine crawlwaylaw50_ScriptReads.l2.partial_correctness t88 t101 (motive:=fun i105 x=>KR (fun (_:Unit) Y=>∀ (Z_:List Nat) (s_:World) (hz0:NKR_api_Item (KZ w Z_) s_ p0_ c0_ x0) (hk91:NKR_api_Item (KZ w Z_) s_ g90.1 g90.2 t88.1),At 197 [(14,.slice g90.1 t88.1.length g90.2),(15,.int .i64 t88.2.1),(16,.int .i64 t88.2.2),(17,.slice p102 t101.length c103)] (Wd w [rowE cStr 9 p102 c103 t101,frzE w Z_ s_]) Y) _ 4 r x→Round (fun Y=>∀ (Z_:List Nat) (s_:World) (hz0:NKR_api_Item (KZ w Z_) s_ p0_ c0_ x0) (hk91:NKR_api_Item (KZ w Z_) s_ g90.1 g90.2 t88.1),At 197 [(14,.slice g90.1 t88.1.length g90.2),(15,.int .i64 t88.2.1),(16,.int .i64 t88.2.2),(17,.slice p102 t101.length c103),(18,.int .i64 i105)] (Wd w [rowE cStr 9 p102 c103 t101,frzE w Z_ s_]) Y) _ _ _) ?_ _ _ hq104 K Z_ s_ hz0 hk91
          ·clear K hF
           intro g ih i105 x hF K Z_ s_ hz0 hk91
           refine at_round ?_
           refine qs (sr (am (am ?_)))
           refine aw (r_len_sl underlying38 rfl) ?_
           refine aw xl (nwq [151,18,17,16,15,14] ?_)
           obtain ⟨h106,hF⟩|⟨h106,hF⟩:=oi hF
           ·refine ct h106 ?_
            refine sn (qs ?_)
            refine qb ?_
            refine sr (am (am ?_))
            obtain ⟨h107,hF⟩:=gd hF
            refine at_pure (φ:=∃ b o,p102=some ⟨b,o,none⟩) (fun _ hw=>row_ptr (hw.own .z).row h107) ?_
            rintro ⟨b109,o110,hp108⟩
            refine aw (r_idx underlying38 sizeOf9 rfl rfl h107 hp108) ?_
            refine aw (r_load_cell isAgg9 rfl (fun _ hw=>row_cell0 (W:=fun w1=>w1=_) (fun w1 h=>by subst h;exact Below.refl _ _) (hw.own .z).row h107 hp108 rfl _ rfl)) ?_
            obtain ⟨t111,ht111,hF⟩:=bM hF
            refine at_front (.s .z) ?_
            refine at_callZ (γ:=G_api_Item) (V:=fun z=>.tuple #[.agg (Cd.cs c_api_Item (z,t111.1)).toArray,.int .i64 t111.2]) (Φ:=fun K s z=>NK_api_Item K s (z,t111.1)) func27 rfl (by kernel_rfl) rfl rfl (fun w hw=>crawlwayref50_Parse_ok ht111 hw) ?_
            intro Z_ s_ g113 hm112 hk114
            replace hz0:=NKR_api_Item.mono hz0 hm112
            replace hk91:=NKR_api_Item.mono hk91 hm112
            refine am ?_
            refine aw xe (aw xe ?_)
            refine al (cs:=Cd.cs c_api_Item zv10) zeroValue33 ?_
            intro b115
            refine at_store (c:=c_api_Item) (z:=(g113,t111.1)) .z lw sizeOf33 rfl rfl rfl ?_
            refine aa (qn (dz (tn (sr (am (aw xn (nwq [163,20,18,17,16,15,14] ?_)))))))
            obtain ⟨h116,hF⟩|⟨h116,hF⟩:=oi hF
            ·refine ct h116 ?_
             refine sr (am ?_)
             refine aw (r_len_sl underlying35 rfl) ?_
             refine aw xq (am ?_)
             obtain ⟨h117,hF⟩|⟨h117,hF⟩:=oi hF
             ·refine fx 167 h117 ?_
              refine gy ?_
              refine am ?_
              refine gy ?_
              refine am ?_
              refine gy ?_
              refine aw xa ?_
              refine gy ?_
              refine aw xq (aw xp (am ?_))
              obtain ⟨h118,hF⟩|⟨h118,hF⟩:=oi hF
              ·refine fx 173 h118 ?_
               refine gy ?_
               refine am ?_
               refine gy ?_
               refine am ?_
               refine gy ?_
               refine aw xq (aw xp (am ?_))
               obtain ⟨h119,hF⟩|⟨h119,hF⟩:=oi hF
               ·refine fx 178 h119 ?_
                refine gy ?_
                obtain ⟨t120,ht120,hF⟩:=bM hF
                refine cB func11 rfl (fun w hw=>crawlwaylaw50_alive_ok  _ ht120 w (hg_bytealg_MaxLen.on hw.below) (hg_strconv_ErrRange.on hw.below) (hg_strconv_ErrSyntax.on hw.below) (hg_strconv_uint64pow10.on hw.below)) ?_
                refine aw xp (aa (qn ?_))
                refine at_drop (H:=_) (.s .z) ?_
                refine wq [4] ?_
                refine tn (qt ?_)
                refine br (tr (tr (br (tr ?_))))
                obtain rfl:=os hF
                subst K
                exact r1 wb
               ·refine fx 178 h119 ?_
                refine gn ?_
                refine aw xp (aa (qn ?_))
                refine at_drop (H:=_) (.s .z) ?_
                refine wq [4] ?_
                refine tn (qt ?_)
                refine br (tr (tr (br (tr ?_))))
                obtain rfl:=os hF
                subst K
                exact r1 wb
              ·refine fx 173 h118 ?_
               refine gn ?_
               refine gn ?_
               refine gn ?_
               refine aw xp (am ?_)
               refine gn ?_
               refine aw xp (aa (qn ?_))
               refine at_drop (H:=_) (.s .z) ?_
               refine wq [4] ?_
               refine tn (qt ?_)
               refine br (tr (tr (br (tr ?_))))
               obtain rfl:=os hF
               subst K
               exact r1 wb
             ·refine fx 167 h117 ?_
              refine gn ?_
              refine gn ?_
              refine gn ?_
              refine gn ?_
              refine aw xp (am ?_)
              refine gn ?_
              refine gn ?_
              refine gn ?_
              refine aw xp (am ?_)
              refine gn ?_
              refine aw xp (aa (qn ?_))
              refine at_drop (H:=_) (.s .z) ?_
              refine wq [4] ?_
              refine tn (qt ?_)
              refine br (tr (tr (br (tr ?_))))
              obtain rfl:=os hF
              subst K
              exact r1 wb
            ·refine cf h116 ?_
             refine at_skip ?_
             refine bm ?_
             refine qr (am (aw xa (aa (nwq [18,17,16,15,14] ?_))))
             refine at_front (.s .z) ?_
             exact at_weak_k (ih _ _ hF K Z_ s_ hz0 hk91) ⟨rfl,rfl,rfl,rfl,rfl,trivial⟩
           ·refine cf h106 ?_
            refine at_exit ?_
            refine te (te ?_)
            obtain rfl:=os hF
            exact at_weak_k (K Z_ s_ hz0 hk91) ⟨rfl,rfl,rfl,rfl,trivial⟩
         ·cases q104 with
          | ret r'=>exact os hF
          | nx sq104 =>
           intro Z_ s_ hz0 hk91
           refine at_blk_same ?_
           refine tn (sr (am ?_))
           refine aw (r_len_sl underlying35 rfl) ?_
           refine am ?_
           refine aw (r_len_sl underlying38 rfl) ?_
           refine aw xq (am ?_)
           obtain ⟨h121,hF⟩|⟨h121,hF⟩:=oi hF
           ·refine fx 186 h121 ?_
            refine gy ?_
            refine am ?_
            refine gy ?_
            refine aw xq (aw xp (am ?_))
            obtain ⟨h122,hF⟩|⟨h122,hF⟩:=oi hF
            ·refine fx 190 h122 ?_
             refine gy ?_
             refine am ?_
             refine gy ?_
             refine aw xq (aw xp (am ?_))
             obtain ⟨h123,hF⟩|⟨h123,hF⟩:=oi hF
             ·refine fx 194 h123 ?_
              refine gy ?_
              obtain ⟨t124,ht124,hF⟩:=bM hF
              refine cB func11 rfl (fun w hw=>crawlwaylaw50_alive_ok  _ ht124 w (hg_bytealg_MaxLen.on hw.below) (hg_strconv_ErrRange.on hw.below) (hg_strconv_ErrSyntax.on hw.below) (hg_strconv_uint64pow10.on hw.below)) ?_
              refine aw xp (aa (qn (dz (wq [4] ?_))))
              refine tn (qt ?_)
              have K:=os hF
              subst K
              exact r1 wb
             ·refine fx 194 h123 ?_
              refine gn ?_
              refine aw xp (aa (qn (dz (wq [4] ?_))))
              refine tn (qt ?_)
              have K:=os hF
              subst K
              exact r1 wb
            ·refine fx 190 h122 ?_
             refine gn ?_
             refine gn ?_
             refine aw xp (am ?_)
             refine gn ?_
             refine aw xp (aa (qn (dz (wq [4] ?_))))
             refine tn (qt ?_)
             have K:=os hF
             subst K
             exact r1 wb
           ·refine fx 186 h121 ?_
            refine gn ?_
            refine gn ?_
            refine aw xp (am ?_)
            refine gn ?_
            refine gn ?_
            refine aw xp (am ?_)
            refine gn ?_
            refine aw xp (aa (qn (dz (wq [4] ?_))))
            refine tn (qt ?_)
            have K:=os hF
            subst K
            exact r1 wb
end Go.Proofs.YtkkmmpofdcccmaaGreatDoor
namespace Go.Proofs.YtkkmmpofdcccmaaGreatDoor.Scr
open E Go.RowKit
open Adr AdrT
theorem splitK_parts(c:UInt8):∀ (n:Nat) (l:List UInt8),l.length≤n→Lib.splitK [c] 0 (l.count c) l=parts c l:=by
 intro n
 induction n with
 | zero =>
  intro l h
  obtain rfl:l=[]:=List.eq_nil_of_length_eq_zero (by omega)
  rfl
 | succ n ih =>
  intro l hl
  rcases split_at c l with h | ⟨p,r,rfl,h⟩
  ·have h0:l.count c=0:=List.count_eq_zero.2 fun hc=>h c hc rfl
   rw [h0,parts_none c l h];rfl
  ·have h0:p.count c=0:=List.count_eq_zero.2 fun hc=>h c hc rfl
   have e:(p++c::r).count c=r.count c+1:=by rw [List.count_append,h0,List.count_cons_self];omega
   have hi:Lib.index (p++c::r) [c]=(p.length:Int):=by rw [Lib.index_one,index_at p r c h]
   rw [e,parts_cons c r p h]
   unfold Lib.splitK
   rw [hi,if_neg (by simp),Int.toNat_natCast,Nat.add_zero,List.take_left' rfl]
   congr 1
   have:List.drop (p.length+[c].length) (p++c::r)=r:=by
    rw [List.length_singleton,←List.drop_drop,List.drop_left' rfl];rfl
   rw [this]
   exact ih r (by simp at hl;omega)
theorem split_code(l:List UInt8)(h:l.length<1000000000):strings_Split (bs l) (⟨#[10]⟩:ByteArray)=some ((parts 10 l).map bs):=by
 unfold strings_Split
 rw [if_pos ⟨by rw [bs_size];omega,by decide⟩]
 congr 1
 have e1:=Lib.splitB_data (⟨#[10]⟩:ByteArray) 0 (Lib.countB (bs l) (⟨#[10]⟩:ByteArray)) (bs l)
 have e2:Lib.countB (bs l) (⟨#[10]⟩:ByteArray)=l.count 10:=by
  show Lib.count (bs l).data.toList [10]=_
  rw [bs_list,Lib.count_one]
 rw [bs_list,e2] at e1
 have e3:Lib.splitK (⟨#[10]⟩:ByteArray).data.toList 0 (l.count 10) l=parts 10 l:=splitK_parts 10 _ l (Nat.le_refl _)
 rw [e3] at e1
 rw [e2,←e1,List.map_map]
 have:(bs∘fun x:ByteArray=>x.data.toList)=id:=by funext x;exact (eq_bs x).symm
 rw [this,List.map_id]
theorem parts_end(c:UInt8):∀ (n:Nat) (l:List UInt8),l.length≤n→parts c (l++[c])=parts c l++[[]]:=by
 intro n
 induction n with
 | zero =>
  intro l h
  obtain rfl:l=[]:=List.eq_nil_of_length_eq_zero (by omega)
  show parts c ([]++c::[])=_
  rw [parts_cons c [] [] (by simp)];rfl
 | succ n ih =>
  intro l hl
  rcases split_at c l with h | ⟨p,r,rfl,h⟩
  ·rw [show l++[c]=l++c::[] from rfl,parts_cons c [] l h,parts_none c l h];rfl
  ·rw [List.append_assoc,List.cons_append,parts_cons c _ p h,ih r (by simp at hl;omega),parts_cons c r p h];rfl
theorem last_cases(l:List UInt8)(h:l≠[]):∃ r x,l=r++[x]:=⟨l.dropLast,l.getLast h,(List.dropLast_concat_getLast h).symm⟩
theorem bs_nil{l:List UInt8}(h:l≠[]):seq (bs l) (⟨#[]⟩:ByteArray)=false:=by
 rw [seq_dec,decide_eq_false]
 exact bs_ne (k:=[]) h
theorem trim10(r:List UInt8):Lib.trimSuffix (r++[10]) [10]=r:=by
 unfold Lib.trimSuffix Lib.hasSuffix
 rw [if_pos (by rw [List.isSuffixOf_iff_suffix];exact ⟨r,rfl⟩)]
 simp
theorem loose_code(r:List UInt8)(h:r.length<1000000000):lines_Loose (bs (r++[10]))=some ((parts 10 r).map bs):=by
 unfold lines_Loose
 rw [bs_nil (by simp),if_neg Bool.false_ne_true,if_pos (by rw [bs_size,List.length_append,List.length_singleton];omega),bs_list]
 show (strings_Split (bs (Lib.trimSuffix (r++[10]) [10])) _>>=_)=_
 rw [trim10,split_code r h,bindM_some]
theorem suffix_code(r:List UInt8)(x:UInt8)(h:r.length<1000000000):strings_HasSuffix (bs (r++[x])) (⟨#[10]⟩:ByteArray)=some (decide (x=10)):=by
 unfold strings_HasSuffix stringslite_HasSuffix
 have hs:(bs (r++[x])).size=r.length+1:=by rw [bs_size,List.length_append,List.length_singleton]
 have h1:(⟨#[10]⟩:ByteArray).size=1:=rfl
 have hw:wr .i64 (((r.length+1:Nat):Int)-((1:Nat):Int))=(r.length:Int):=by rw [wr_i64 (by omega) (by omega)];omega
 rw [hs,h1,if_pos (by rw [decide_eq_true_eq];omega),hw,if_pos ⟨by omega,by omega,by omega⟩,bindM_some,Int.toNat_natCast,Int.toNat_natCast,bs_extract,seq_dec]
 congr 1
 have e:(List.take (r.length+1) (r++[x])).drop r.length=[x]:=by
  rw [List.take_of_length_le (by simp),List.drop_left' rfl]
 rw [e,decide_eq_decide]
 constructor
 ·intro h
  have:=bs_inj (k:=[10]) h
  injection this
 ·rintro rfl;rfl
theorem lsplit_end(r:List UInt8)(h:r.length<1000000000):lines_Split (bs (r++[10]))=some ((parts 10 r).map bs,true):=by
 unfold lines_Split
 rw [bs_nil (by simp),if_pos (by rfl),suffix_code r 10 h,bindM_some,if_neg (by simp),loose_code r h,bindM_some]
theorem lsplit_bad(r:List UInt8)(x:UInt8)(hx:x≠10)(h:r.length<1000000000):lines_Split (bs (r++[x]))=some ([],false):=by
 unfold lines_Split
 rw [bs_nil (by simp),if_pos (by rfl),suffix_code r x h,bindM_some,if_pos (by simp [hx])]
theorem lsplit_nil:lines_Split (bs [])=some ([],true):=by
 unfold lines_Split lines_Loose
 have:seq (bs []) (⟨#[]⟩:ByteArray)=true:=seq_self _
 rw [this];rfl
theorem loose_ref(r:List UInt8)(h:r.length<100000):crawlwayref06_Loose (bs (r++[10]))=some ((parts 10 r).map bs):=by
 unfold crawlwayref06_Loose
 have e:=parts_ref 10 (r++[10]) (by simp;omega)
 rw [show ((10:UInt8).toNat:Int)=10 from rfl] at e
 have hn:=parts_len 10 r
 have e2:(parts 10 (r++[10])).map bs=(parts 10 r).map bs++[bs []]:=by rw [parts_end 10 _ r (Nat.le_refl _),List.map_append];rfl
 rw [e,bindM_some,e2]
 have hl:(((parts 10 r).map bs++[bs []]).length:Int)=((parts 10 r).length:Int)+1:=by simp
 have hw:wr .i64 ((((parts 10 r).map bs++[bs []]).length:Int)-1)=((parts 10 r).length:Int):=by rw [hl,wr_i64 (by omega) (by omega)];omega
 rw [hw,hl,if_pos (by omega)]
 have hg:lget ((parts 10 r).map bs++[bs []]) ((parts 10 r).length:Int)=bs []:=by
  rw [lget_at _ _ (by simp)]
  rw [List.getElem_append_right (by simp)];simp
 rw [hg,if_pos (by exact seq_self _),if_pos (by omega),Int.toNat_natCast,List.take_left' (by simp)]
theorem loose_ref_nil:crawlwayref06_Loose (bs [])=some []:=by
 unfold crawlwayref06_Loose
 have e:=parts_ref 10 [] (by simp)
 rw [show ((10:UInt8).toNat:Int)=10 from rfl] at e
 rw [e,bindM_some]
 decide +kernel
def PB(s:ByteArray):S_api_Item×Int:=pB ((parts 32 s.data.toList).map bs)
theorem PB_parse{s:ByteArray}(h:s.size≤9000):script_Parse s=some (PB s)∧crawlwayref50_Parse s=some (PB s):=by
 have hl:s.data.toList.length≤9000:=by rw [size_toList];exact h
 have hn:=parts_len 32 s.data.toList
 have hp:=parts_sz 32 s.data.toList
 have:=parse_both (l:=s.data.toList) (by omega) (by omega) (fun w hw=>by have:=hp w hw;omega)
 rw [←eq_bs s] at this
 exact this
def fb:List ByteArray→Nat→Option (Nat×Int)
 | [],_=>none
 | s::r,i=>if (PB s).2=0 then fb r (i+1) else some (i+1,(PB s).2)
theorem read_loop(t:List ByteArray)(hp:∀ s∈t,script_Parse s=some (PB s))(hl:t.length≤100000)(u:Bool):∀ (k i:Nat) (acc:List S_api_Item),i+k=t.length→acc.length=i →
  script_Read.l0 (t,u) acc (i:Int)=some (match fb (t.drop i) i with | some q=>.ret ([],(q.1:Int),q.2) | none=>.nx (acc++(t.drop i).map fun s=>(PB s).1))
 | 0,i,acc,h,ha=>by
  rw [script_Read.l0.eq_def,decide_eq_false (show ¬ (i:Int)<(t.length:Int) by omega),if_neg Bool.false_ne_true,List.drop_eq_nil_of_le (by omega)]
  simp [fb]
 | k+1,i,acc,h,ha=>by
  rw [script_Read.l0.eq_def,decide_eq_true (show (i:Int)<(t.length:Int) by omega),if_pos rfl,if_pos (show (0:Int)≤(i:Int)∧(i:Int)<(t.length:Int) by omega)]
  show (script_Parse (lget t (i:Int))>>=_)=_
  rw [hp _ (lget_mem t i (by omega)),bindM_some,drop_at t i (by omega),wr_i i (by omega)]
  unfold fb
  by_cases h0:(PB (lget t (i:Int))).2=0
  ·rw [if_neg (by simp [h0]),if_pos (by omega),if_pos h0,read_loop t hp hl u k (i+1) _ (by omega) (by simp [ha])]
   simp
  ·rw [if_pos (by simpa using h0),if_neg h0]
theorem read_code{s:ByteArray}{t:List ByteArray}(hs:lines_Split s=some (t,true))(hp:∀ s∈t,script_Parse s=some (PB s))(hl:t.length≤100000) :
  script_Read s=some (match fb t 0 with | some q=>([],(q.1:Int),q.2) | none=>(t.map fun s=>(PB s).1,0,0)):=by
 unfold script_Read
 have:=read_loop t hp hl true t.length 0 [] (by omega) rfl
 rw [List.drop_zero] at this
 rw [hs,bindM_some,if_neg (by simp)]
 show (script_Read.l0 (t,true) [] ((0:Nat):Int)>>=_)=_
 rw [this,bindM_some]
 cases fb t 0 with
 | some q=>rfl
 | none=>rfl
theorem read_bad{s:ByteArray}(hs:lines_Split s=some ([],false)):script_Read s=some ([],0,5):=by
 unfold script_Read
 rw [hs,bindM_some,if_pos (by rfl)]
theorem bad_loop{t:List ByteArray}(hp:∀ s∈t,crawlwayref50_Parse s=some (PB s))(hl:t.length≤100000){m:List S_api_Item×Int×Int}{L:Int→Option (Ctl Bool Unit)}
  (hL:∀ i:Int,L i=if (decide (i<(t.length:Int)))=true then (if (0:Int)≤i∧i<(t.length:Int) then crawlwayref50_Parse (lget t i)>>=fun q=>if (q.2 != 0)=true then (if ((m.1.length:Int)==0)=true then (if (m.2.1==wr .i64 (i+1))=true then (if (m.2.2==q.2)=true then (crawlwaylaw50_alive>>=fun a=>some (.ret a)) else (some (.ret false))) else (some (.ret false))) else (some (.ret false))) else (L (wr .i64 (i+1))) else none) else (some (.nx ()))) :
  ∀ (k i:Nat),i+k=t.length→(∀ q,fb (t.drop i) i=some q→m=([],(q.1:Int),q.2)→L (i:Int)=some (.ret true))∧(fb (t.drop i) i=none→L (i:Int)=some (.nx ()))
 | 0,i,h=>by
  rw [List.drop_eq_nil_of_le (by omega)]
  refine ⟨fun q hq=>(by cases hq),fun _=>?_⟩
  rw [hL,decide_eq_false (show ¬ (i:Int)<(t.length:Int) by omega),if_neg Bool.false_ne_true]
 | k+1,i,h=>by
  have ih:=bad_loop hp hl hL k (i+1) (by omega)
  rw [drop_at t i (by omega),hL,decide_eq_true (show (i:Int)<(t.length:Int) by omega),if_pos rfl,if_pos (show (0:Int)≤(i:Int)∧(i:Int)<(t.length:Int) by omega),hp _ (lget_mem t i (by omega)),bindM_some,wr_i i (by omega)]
  unfold fb
  by_cases h0:(PB (lget t (i:Int))).2=0
  ·rw [if_pos h0,if_neg (show ¬ ((PB (lget t (i:Int))).2 != 0)=true by simp [h0])];exact ih
  ·rw [if_neg h0,if_pos (show ((PB (lget t (i:Int))).2 != 0)=true by simpa using h0)]
   refine ⟨fun q hq hm=>?_,fun hn=>by cases hn⟩
   obtain rfl:=Option.some.inj hq
   subst hm
   rw [if_pos (by simp),if_pos (by simp),if_pos (by simp),alive50,bindM_some]
theorem fb_none{t:List ByteArray}(h:∀ s∈t,(PB s).2=0):∀ i,fb t i=none:=by
 induction t with
 | nil=>intro i;rfl
 | cons s r ih =>
  intro i
  unfold fb
  rw [if_pos (h s (List.mem_cons_self ..))]
  exact ih (fun s hs=>h s (List.mem_cons_of_mem _ hs)) _
def rt(x:S_api_Item):Bool:=(script_Right x).getD false
def tl(x:S_api_Item):List UInt8:=((script_Text x).getD (⟨#[]⟩,0)).1.data.toList
structure Fx (x:S_api_Item):Prop where
 r1:script_Right x=some (rt x)
 r2:crawlwayref50_Right x=some (rt x)
 bad:rt x=false→script_Text x=some (⟨#[]⟩,1)
 t1:rt x=true→script_Text x=some (bs (tl x),0)
 t2:rt x=true→crawlwayref50_Text x=some (bs (tl x))
 back:rt x=true→PB (bs (tl x))=(x,0)∧script_Parse (bs (tl x))=some (x,0)
 no:rt x=true→∀ y∈tl x,y≠10
 len:rt x=true→(tl x).length≤100010
 small:smallI x
theorem jn_no:∀ (W:List (List UInt8)),(∀ w∈W,no32 w)→∀ x∈jn W,x≠10
 | [],_,x,hx=>by cases hx
 | [a],h,x,hx=>(h a (by simp)).ne 10 (by decide) x hx
 | a::b::r,h,x,hx=>by
  rcases List.mem_append.1 (show x∈a++32::jn (b::r) from hx) with hx | hx
  ·exact (h a (by simp)).ne 10 (by decide) x hx
  ·rcases List.mem_cons.1 hx with rfl | hx
   ·decide
   ·exact jn_no (b::r) (fun w hw=>h w (List.mem_cons_of_mem _ hw)) x hx
theorem fx(x:S_api_Item)(w:ok_api_Item x)(hs:smallI x):Fx x:=by
 obtain ⟨b,h1,h2,h3⟩:=right_both x w hs
 have hb:rt x=b:=by unfold rt;rw [h1];rfl
 cases b with
 | false =>
  have ht:∀ {p:Prop},rt x=true→p:=fun h=>by rw [hb] at h;cases h
  exact ⟨by rw [h1,hb],by rw [h2,hb],fun _=>text_bad h1,fun h=>ht h,fun h=>ht h,fun h=>ht h,fun h=>ht h,fun h=>ht h,hs⟩
 | true =>
  obtain ⟨W,hW⟩:=rt_line (h3 rfl) w hs
  have ht:tl x=jn W:=by unfold tl;rw [hW.code];exact bs_list _
  have hl:=jn_len 20000 W hW.sz
  have hl2:W.length*(20000+1)≤5*20001:=Nat.mul_le_mul_right _ hW.len
  refine ⟨by rw [h1,hb],by rw [h2,hb],fun h=>by (rw [hb] at h;cases h),fun _=>by rw [ht];exact hW.code,fun _=>by rw [ht];exact hW.ref,fun _=>⟨?_,by rw [ht];exact line_parse hW⟩,fun _=>by rw [ht];exact jn_no W hW.no,fun _=>by rw [ht];omega,hs⟩
  rw [ht]
  unfold PB
  rw [bs_list,parts_jn W hW.ne hW.no]
  exact hW.back
def cat:List (List UInt8)→List UInt8
 | []=>[]
 | l::r=>l++10::cat r
theorem parts_cat:∀ (Ls:List (List UInt8)),(∀ l∈Ls,∀ y∈l,y≠10)→parts 10 (cat Ls)=Ls++[[]]
 | [],_=>rfl
 | l::r,h=>by
  show parts 10 (l++10::cat r)=_
  rw [parts_cons 10 _ l (h l (by simp)),parts_cat r fun l hl=>h l (List.mem_cons_of_mem _ hl)];rfl
theorem cat_last:∀ (Ls:List (List UInt8)),Ls≠[]→∃ r,cat Ls=r++[10]
 | [],h=>absurd rfl h
 | [l],_=>⟨l,rfl⟩
 | l::m::r,_=>by
  obtain ⟨q,hq⟩:=cat_last (m::r) (by simp)
  refine ⟨l++10::q,?_⟩
  show l++10::cat (m::r)=_
  rw [hq];simp
theorem cat_end{Ls:List (List UInt8)}(h:Ls≠[])(hn:∀ l∈Ls,∀ y∈l,y≠10):∃ r,cat Ls=r++[10]∧parts 10 r=Ls:=by
 obtain ⟨r,hr⟩:=cat_last Ls h
 refine ⟨r,hr,?_⟩
 have:=parts_cat Ls hn
 rw [hr,parts_end 10 _ r (Nat.le_refl _)] at this
 exact List.append_cancel_right this
theorem cat_len:∀ (Ls:List (List UInt8)),(∀ l∈Ls,l.length≤100010)→(cat Ls).length≤Ls.length*100011
 | [],_=>Nat.zero_le _
 | l::r,h=>by
  have h1:=h l (by simp)
  have h2:=cat_len r fun l hl=>h l (List.mem_cons_of_mem _ hl)
  show (l++10::cat r).length≤_
  simp only [List.length_append,List.length_cons,Nat.add_mul]
  omega
theorem lget_map{Ls:List (List UInt8)}{i:Nat}(h:i<Ls.length):lget (Ls.map bs) (i:Int)=bs (lget Ls (i:Int)):=by
 rw [lget_at _ i (by simpa using h),lget_at Ls i h,List.getElem_map]
theorem join_loop(Ls:List (List UInt8))(hm:∀ l∈Ls,l.length≤100010)(hn:Ls.length≤40):∀ (k i:Nat) (a:List UInt8),i+k=Ls.length→a.length≤i*100011→lines_Join.l0 (Ls.map bs) (i:Int) (bs a)=some (bs (a++cat (Ls.drop i)))
 | 0,i,a,h,ha=>by
  rw [lines_Join.l0.eq_def,decide_eq_false (show ¬ (i:Int)<((Ls.map bs).length:Int) by rw [List.length_map];omega),if_neg Bool.false_ne_true,List.drop_eq_nil_of_le (by omega)]
  show _=some (bs (a++[]))
  rw [List.append_nil]
 | k+1,i,a,h,ha=>by
  have hx:=hm _ (lget_mem Ls i (by omega))
  have hi:i*100011≤40*100011:=Nat.mul_le_mul_right _ (by omega)
  have b2:(⟨#[10]⟩:ByteArray)=bs [10]:=rfl
  rw [lines_Join.l0.eq_def,decide_eq_true (show (i:Int)<((Ls.map bs).length:Int) by rw [List.length_map];omega),if_pos rfl,if_pos (show (0:Int)≤(i:Int)∧(i:Int)<((Ls.map bs).length:Int) by rw [List.length_map];omega),lget_map (by omega),if_pos (by rw [bs_size,bs_size];omega),Host.bs_app,b2,if_pos (by rw [bs_size,bs_size,List.length_append,List.length_singleton];omega),Host.bs_app,wr_i i (by omega),
   join_loop Ls hm hn k (i+1) _ (by omega) (by simp only [List.length_append,List.length_singleton];omega),drop_at Ls i (by omega)]
  show _=some (bs (a++(lget Ls (i:Int)++10::cat (Ls.drop (i+1)))))
  simp
theorem join_code(Ls:List (List UInt8))(hm:∀ l∈Ls,l.length≤100010)(hn:Ls.length≤40):lines_Join (Ls.map bs)=some (bs (cat Ls)):=by
 unfold lines_Join
 have:=join_loop Ls hm hn Ls.length 0 [] (by omega) (by simp)
 rw [List.drop_zero] at this
 show (lines_Join.l0 _ ((0:Nat):Int) (bs [])>>=_)=_
 rw [this,bindM_some];rfl
theorem all_drop{l:List S_api_Item}{i:Nat}(h:i<l.length):(l.drop i).all rt=(rt (lget l (i:Int))&&(l.drop (i+1)).all rt):=by
 rw [drop_at l i h,List.all_cons]
theorem script_loop(l:List S_api_Item)(hf:∀ x∈l,Fx x)(hn:l.length≤40):∀ (k i:Nat) (acc:List ByteArray),i+k=l.length→acc.length≤i→script_Script.l0 l acc (i:Int)=some (if (l.drop i).all rt=true then .nx (acc++(l.drop i).map fun x=>bs (tl x)) else .ret (⟨#[]⟩,1))
 | 0,i,acc,h,ha=>by
  rw [script_Script.l0.eq_def,decide_eq_false (show ¬ (i:Int)<(l.length:Int) by omega),if_neg Bool.false_ne_true,List.drop_eq_nil_of_le (by omega)]
  simp
 | k+1,i,acc,h,ha=>by
  have f:=hf _ (lget_mem l i (by omega))
  rw [script_Script.l0.eq_def,decide_eq_true (show (i:Int)<(l.length:Int) by omega),if_pos rfl,if_pos (show (0:Int)≤(i:Int)∧(i:Int)<(l.length:Int) by omega),all_drop (by omega),wr_i i (by omega)]
  cases hr:rt (lget l (i:Int)) with
  | false=>rw [f.bad hr,bindM_some,if_pos (by rfl),Bool.false_and,if_neg Bool.false_ne_true]
  | true =>
   rw [f.t1 hr,bindM_some,if_neg (by simp),if_pos (by omega),script_loop l hf hn k (i+1) _ (by omega) (by simp;omega),Bool.true_and,drop_at l i (by omega)]
   simp
theorem script_code(l:List S_api_Item)(hf:∀ x∈l,Fx x)(hn:l.length≤40):script_Script l=some (if l.all rt=true then (bs (cat (l.map tl)),0) else (⟨#[]⟩,1)):=by
 unfold script_Script
 have:=script_loop l hf hn l.length 0 [] (by omega) (by simp)
 rw [List.drop_zero] at this
 show (script_Script.l0 l [] ((0:Nat):Int)>>=_)=_
 rw [this,bindM_some]
 by_cases ha:l.all rt=true
 ·rw [if_pos ha,if_pos ha]
  have hj:=join_code (l.map tl) (fun q hq=>by obtain ⟨x,hx,rfl⟩:=List.mem_map.1 hq;exact (hf x hx).len (List.all_eq_true.1 ha x hx)) (by rw [List.length_map];exact hn)
  rw [List.map_map] at hj
  show (lines_Join ([]++l.map fun x=>bs (tl x))>>=_)=_
  rw [List.nil_append]
  show (lines_Join (l.map (bs∘tl))>>=_)=_
  rw [hj,bindM_some]
 ·rw [if_neg ha,if_neg ha]
theorem want_stop(l:List S_api_Item)(hn:l.length≤40)(v:ByteArray):∀ (k i:Nat),i+k=l.length→crawlwaylaw50_ScriptReads.l0 l false v (i:Int)=some (false,v)
 | 0,i,h=>by rw [crawlwaylaw50_ScriptReads.l0.eq_def,decide_eq_false (show ¬ (i:Int)<(l.length:Int) by omega),if_neg Bool.false_ne_true]
 | k+1,i,h=>by rw [crawlwaylaw50_ScriptReads.l0.eq_def,decide_eq_true (show (i:Int)<(l.length:Int) by omega),if_pos rfl,if_neg Bool.false_ne_true,wr_i i (by omega),want_stop l hn v k (i+1) (by omega)]
theorem want_loop(l:List S_api_Item)(hf:∀ x∈l,Fx x)(hn:l.length≤40):∀ (k i:Nat) (a:List UInt8),i+k=l.length→a.length≤i*100011→∃ v,crawlwaylaw50_ScriptReads.l0 l true (bs a) (i:Int)=some ((l.drop i).all rt,v)∧((l.drop i).all rt=true→v=bs (a++cat ((l.drop i).map tl)))
 | 0,i,a,h,ha=>by
  rw [crawlwaylaw50_ScriptReads.l0.eq_def,decide_eq_false (show ¬ (i:Int)<(l.length:Int) by omega),if_neg Bool.false_ne_true,List.drop_eq_nil_of_le (by omega)]
  exact ⟨_,rfl,fun _=>by show _=bs (a++[]);rw [List.append_nil]⟩
 | k+1,i,a,h,ha=>by
  have f:=hf _ (lget_mem l i (by omega))
  have hi:i*100011≤40*100011:=Nat.mul_le_mul_right _ (by omega)
  have b2:(⟨#[10]⟩:ByteArray)=bs [10]:=rfl
  rw [crawlwaylaw50_ScriptReads.l0.eq_def,decide_eq_true (show (i:Int)<(l.length:Int) by omega),if_pos rfl,if_pos rfl,if_pos (show (0:Int)≤(i:Int)∧(i:Int)<(l.length:Int) by omega),f.r2,bindM_some,all_drop (by omega),wr_i i (by omega)]
  cases hr:rt (lget l (i:Int)) with
  | false =>
   rw [if_neg Bool.false_ne_true,want_stop l hn _ k (i+1) (by omega)]
   exact ⟨_,rfl,fun h=>by simp at h⟩
  | true =>
   have hl:=f.len hr
   rw [if_pos rfl,if_pos (by omega),f.t2 hr,bindM_some,if_pos (by rw [bs_size,bs_size];omega),Host.bs_app,b2,if_pos (by rw [bs_size,bs_size,List.length_append,List.length_singleton];omega),Host.bs_app]
   obtain ⟨v,h1,h2⟩:=want_loop l hf hn k (i+1) ((a++tl (lget l (i:Int)))++[10]) (by omega) (by simp only [List.length_append,List.length_singleton];omega)
   refine ⟨v,by rw [h1,Bool.true_and],fun h=>?_⟩
   rw [Bool.true_and] at h
   rw [h2 h,drop_at l i (by omega)]
   show _=bs (a++(tl (lget l (i:Int))++10::cat ((l.drop (i+1)).map tl)))
   simp
theorem bt_last(r:List UInt8)(x:UInt8):bt (bs (r++[x])) (r.length:Int)=(x.toNat:Int):=by
 unfold bt
 have:(bs (r++[x]))[((r.length:Int)).toNat]? = some x:=by
  rw [Int.toNat_natCast]
  show (bs (r++[x])).data[r.length]? = _
  simp [bs]
 rw [this];rfl
abbrev RT:=List S_api_Item×Int×Int
def BadL(m:RT)(t:List ByteArray)(L:Int→Option (Ctl Bool Unit)):Prop :=
 ∀ i:Int,L i=if (decide (i<(t.length:Int)))=true then (if (0:Int)≤i∧i<(t.length:Int) then crawlwayref50_Parse (lget t i)>>=fun q=>if (q.2 != 0)=true then (if ((m.1.length:Int)==0)=true then (if (m.2.1==wr .i64 (i+1))=true then (if (m.2.2==q.2)=true then (crawlwaylaw50_alive>>=fun a=>some (.ret a)) else (some (.ret false))) else (some (.ret false))) else (some (.ret false))) else (L (wr .i64 (i+1))) else none) else (some (.nx ()))
def fin2(m:RT)(t:List ByteArray)(q:Option (Ctl Bool Unit)):Option Bool:=q>>=fun q=>match q with
 | .ret r'=>some r'
 | .nx _=>(if ((m.1.length:Int)==(t.length:Int))=true then (if (m.2.1==0)=true then (if (m.2.2==0)=true then (crawlwaylaw50_alive>>=fun a=>some a) else (some false)) else (some false)) else (some false))
theorem fin2_ok{t:List ByteArray}(hp:∀ s∈t,crawlwayref50_Parse s=some (PB s))(hl:t.length≤100000){L:Int→Option (Ctl Bool Unit)}{m:RT}(hm:m=(match fb t 0 with | some q=>([],(q.1:Int),q.2) | none=>(t.map fun s=>(PB s).1,0,0)))(hL:BadL m t L):fin2 m t (L 0)=some true:=by
 have h:=bad_loop hp hl hL t.length 0 (by omega)
 rw [List.drop_zero,show ((0:Nat):Int)=0 from rfl] at h
 cases hf:fb t 0 with
 | some q=>rw [hf] at hm h;rw [h.1 q rfl hm];rfl
 | none =>
  rw [hf] at hm h
  rw [h.2 rfl]
  subst hm
  show (if _ then _ else _)=_
  rw [if_pos (by simp),if_pos (by rfl),if_pos (by rfl),alive50,bindM_some]
def tail(x1:ByteArray)(L:RT→List ByteArray→Int→Option (Ctl Bool Unit)):Option Bool :=
 script_Read x1>>=fun t88=>(if (decide ((x1.size:Int)>0))=true then (if (0:Int)≤wr .i64 ((x1.size:Int)-1)∧wr .i64 ((x1.size:Int)-1)<(x1.size:Int) then if (bt x1 (wr .i64 ((x1.size:Int)-1)) != 10)=true then (if ((t88.1.length:Int)==0)=true then (if (t88.2.1==0)=true then (if (t88.2.2==5)=true then (crawlwaylaw50_alive>>=fun t100=>some (.ret t100)) else (some (.ret false))) else (some (.ret false))) else (some (.ret false))) else (some (.nx ())) else none) else (some (.nx ())):Option (Ctl (Bool) (Unit)))>>=fun q92=>match q92 with | .ret r'=>some r' | .nx sq92=>(crawlwayref06_Loose x1>>=fun t101=>fin2 t88 t101 (L t88 t101 0))
theorem tail_ok(l:List UInt8)(hl:l.length≤9000)(L:RT→List ByteArray→Int→Option (Ctl Bool Unit))(h1:∀ m t,BadL m t (L m t)):tail (bs l) L=some true:=by
 unfold tail
 by_cases h:l=[]
 ·subst h
  have hr:=read_code (s:=bs []) (t:=[]) lsplit_nil (by simp) (by simp)
  rw [hr,bindM_some,if_neg (by decide),bindM_some]
  show (crawlwayref06_Loose (bs [])>>=_)=_
  rw [loose_ref_nil,bindM_some]
  exact fin2_ok (by simp) (by simp) rfl (h1 _ _)
 ·obtain ⟨r,x,rfl⟩:=last_cases l h
  have hs:(bs (r++[x])).size=r.length+1:=by rw [bs_size,List.length_append,List.length_singleton]
  have hr:r.length+1≤9000:=by simpa using hl
  have hw:wr .i64 (((r.length+1:Nat):Int)-1)=(r.length:Int):=by rw [wr_i64 (by omega) (by omega)];omega
  by_cases hx:x=10
  ·subst hx
   have hn:=parts_len 10 r
   have hp:=parts_sz 10 r
   have hP:∀ s∈(parts 10 r).map bs,s.size≤9000:=fun s hm=>by
    obtain ⟨w,hw,rfl⟩:=List.mem_map.1 hm
    rw [bs_size];have:=hp w hw;omega
   have hR:=read_code (lsplit_end r (by omega)) (fun s hm=>(PB_parse (hP s hm)).1) (by rw [List.length_map];omega)
   rw [hR,bindM_some,hs,hw,bt_last,if_pos (by rw [decide_eq_true_eq];omega),if_pos (by omega),if_neg (by decide),bindM_some]
   show (crawlwayref06_Loose (bs (r++[10]))>>=_)=_
   rw [loose_ref r (by omega),bindM_some]
   exact fin2_ok (fun s hm=>(PB_parse (hP s hm)).2) (by rw [List.length_map];omega) rfl (h1 _ _)
  ·rw [read_bad (lsplit_bad r x hx (by omega)),bindM_some,hs,hw,bt_last,if_pos (by rw [decide_eq_true_eq];omega),if_pos (by omega),if_pos ?_,if_pos (by rfl),if_pos (by rfl),if_pos (by rfl),alive50,bindM_some,bindM_some]
   rw [bne_iff_ne]
   intro e
   exact hx (UInt8.toNat.inj (by have:(10:UInt8).toNat=10:=rfl;omega))
theorem same_loop(l:List S_api_Item)(hf:∀ x∈l,Fx x)(hn:l.length≤40)(e:Int×Int):∀ (k i:Nat),i+k=l.length→crawlwaylaw50_ScriptReads.l1 l (l,e) (i:Int)=some (.nx ())
 | 0,i,h=>by rw [crawlwaylaw50_ScriptReads.l1.eq_def,decide_eq_false (show ¬ (i:Int)<(l.length:Int) by omega),if_neg Bool.false_ne_true]
 | k+1,i,h=>by
  have f:=hf _ (lget_mem l i (by omega))
  rw [crawlwaylaw50_ScriptReads.l1.eq_def,decide_eq_true (show (i:Int)<(l.length:Int) by omega),if_pos rfl,if_pos (show (0:Int)≤(i:Int)∧(i:Int)<((l,e).1.length:Int) by show _∧(i:Int)<(l.length:Int);omega),if_pos (by omega)]
  show (crawlwayref50_Same (lget l (i:Int)) (lget l (i:Int))>>=_)=_
  rw [same_ref _ _ f.small,bindM_some,if_neg (by simp),wr_i i (by omega),same_loop l hf hn e k (i+1) (by omega)]
theorem read_back(l:List S_api_Item)(hf:∀ x∈l,Fx x)(hn:l.length≤40)(ha:l.all rt=true):script_Read (bs (cat (l.map tl)))=some (l,0,0):=by
 have fa:∀ x∈l,rt x=true:=fun x hx=>List.all_eq_true.1 ha x hx
 by_cases h:l=[]
 ·subst h
  exact read_code (s:=bs []) (t:=[]) lsplit_nil (by simp) (by simp)
 ·obtain ⟨r,hr,hp⟩:=cat_end (Ls:=l.map tl) (by simpa using h) (fun q hq=>by obtain ⟨x,hx,rfl⟩:=List.mem_map.1 hq;exact (hf x hx).no (fa x hx))
  have hc:=cat_len (l.map tl) (fun q hq=>by obtain ⟨x,hx,rfl⟩:=List.mem_map.1 hq;exact (hf x hx).len (fa x hx))
  rw [List.length_map] at hc
  have h2:l.length*100011≤40*100011:=Nat.mul_le_mul_right _ hn
  rw [hr,List.length_append,List.length_singleton] at hc
  have hs:=lsplit_end r (by omega)
  rw [hp] at hs
  have hx:∀ s∈(l.map tl).map bs,∃ x∈l,s=bs (tl x):=fun s hm=>by
   obtain ⟨w,hw,rfl⟩:=List.mem_map.1 hm
   obtain ⟨x,hx,rfl⟩:=List.mem_map.1 hw
   exact ⟨x,hx,rfl⟩
  have hR:=read_code hs (fun s hm=>by obtain ⟨x,hx,rfl⟩:=hx s hm;rw [((hf x hx).back (fa x hx)).1];exact ((hf x hx).back (fa x hx)).2) (by rw [List.length_map,List.length_map];omega)
  have hb:=fb_none (t:=(l.map tl).map bs) (fun s hm=>by obtain ⟨x,hx,rfl⟩:=hx s hm;rw [((hf x hx).back (fa x hx)).1]) 0
  rw [hr,hR,hb]
  have e:((l.map tl).map bs).map (fun s=>(PB s).1)=l:=by
   rw [List.map_map,List.map_map]
   conv=>rhs;rw [←List.map_id l]
   apply List.map_congr_left
   intro x hx
   show (PB (bs (tl x))).1=x
   rw [((hf x hx).back (fa x hx)).1]
  show some (((l.map tl).map bs).map (fun s=>(PB s).1),(0:Int),(0:Int))=_
  rw [e]
theorem ScriptReads_pure(a0:List S_api_Item)(w0:∀ x∈a0,ok_api_Item x)(a1:ByteArray)(w1:a1.size≤maxLen):crawlwaylaw50_ScriptReads a0 a1=some true:=by
 unfold crawlwaylaw50_ScriptReads
 rcases large a0 with h | ⟨h,hn,hs⟩
 ·rw [h,bindM_some,if_pos rfl,alive50,bindM_some,bindM_some]
 ·rw [h,bindM_some,if_neg Bool.false_ne_true]
  by_cases hz:(a1.size:Int)>9000
  ·rw [if_pos (by simpa using hz),alive50,bindM_some,bindM_some]
  ·rw [if_neg (by simpa using hz),bindM_some]
   have hf:∀ x∈a0,Fx x:=fun x hx=>fx x (w0 x hx) (hs x hx)
   have hl:a1.data.toList.length≤9000:=by rw [size_toList];omega
   have ht:=tail_ok a1.data.toList hl crawlwaylaw50_ScriptReads.l2 (fun m t i=>crawlwaylaw50_ScriptReads.l2.eq_def m t i)
   rw [←eq_bs a1] at ht
   obtain ⟨v,hv,hw⟩:=want_loop a0 hf hn a0.length 0 [] (by omega) (by simp)
   rw [List.drop_zero] at hv hw
   show (crawlwaylaw50_ScriptReads.l0 a0 true (bs []) ((0:Nat):Int)>>=_)=_
   rw [hv,bindM_some,script_code a0 hf hn,bindM_some]
   cases ha:a0.all rt with
   | false =>
    rw [if_neg Bool.false_ne_true,if_pos (by rfl),if_neg (by rw [seq_self];decide),if_neg (by decide),bindM_some]
    show ((if false=true then _ else _)>>=_)=_
    rw [if_neg Bool.false_ne_true,bindM_some]
    exact ht
   | true =>
    rw [if_pos rfl,if_neg (by simp)]
    have hv2:=hw ha
    rw [List.nil_append] at hv2
    rw [hv2,if_neg (by rw [seq_self];decide),if_neg (by simp),bindM_some]
    show ((if true=true then _ else _)>>=_)=_
    rw [if_pos rfl,read_back a0 hf hn ha,bindM_some,if_neg (by simp),if_neg (by simp),if_neg (by simp),bindM_some]
    show ((crawlwaylaw50_ScriptReads.l1 a0 (a0,0,0) ((0:Nat):Int)>>=_)>>=_)=_
    rw [same_loop a0 hf hn (0,0) a0.length 0 (by omega),bindM_some,bindM_some]
    exact ht
end Go.Proofs.YtkkmmpofdcccmaaGreatDoor.Scr
