import Derived.Test.YtknchlpcpgflkaaGreatDoorKGAQ
import Derived.Test.YtknchlpcpgflkaaGreatDoorKGAA
import Derived.Deep.Slices
import Derived.Deep.Fields
import Derived.ChangeSame
import Derived.ChangeOld
import Derived.ProofKit
import Derived.OpenShut
import Derived.ShutString
import Derived.Test.YtknchlpcpgflkaaGreatDoorKGAB
import Derived.Test.YtknchlpcpgflkaaGreatDoorKGAC
import Derived.Test.YtknchlpcpgflkaaGreatDoorKGAE
set_option maxHeartbeats 16000000
namespace Go.Proofs.YtknchlpcpgflkaaGreatDoor
open Go.RowKit Go.Shelf
theorem aftJ_app (n:Int):∀ (J K:List Stp2) (d:Int),aftJ n (J++K) d=aftJ n K (aftJ n J d)
 | [],_,_=>rfl
 | _::J,K,_=>aftJ_app n J K _
theorem aftJ_at {n:Int} {J:List Stp2} {k:Nat} {s:Stp2} (h:J[k]? = some s) (d:Int) :
 aftJ n (J.take (k+1)) d=if s.1≤aftJ n (J.take k) d∧0<n then aftJ n (J.take k) d+(s.2 - s.1) else aftJ n (J.take k) d:=by
 obtain ⟨hk,hs⟩:=List.getElem?_eq_some_iff.1 h;rw [List.take_succ_eq_append_getElem hk,hs,aftJ_app];rfl
theorem after_any (w:World) (g:Nat) (f n:Int) (J:List Stp2) (h:ClockAt w g f J) (f0:0≤f) (f1:f≤1000000) (n0:0≤n) (n1:n≤1000000) (hl:J.length≤60) (hJ:∀ s∈J,f<s.1∧s.1<s.2∧s.2≤1000000) :
 Calls Tryz.prog 44 #[.pointer (some ⟨g,0,none⟩),.int .i64 n] w fun e w'=>e = .returned (.int .i64 (aftJ n J (f+n)))∧Below w.heap.size w w':=by
 obtain ⟨A,c,hk,hs⟩:=h;have HS:=hd_ hs;have HJ:=hd_ hJ;clear hs hJ;obtain ⟨x0,x1,x2⟩:=hk.all;go_enter Tryz.func44,Tryz.ntmps44
 go_wp2_with fail
 clear x0 x1 hk;go_loopw [5,19] (fun v i wr=>∃ (k:Nat) (d:Int),k≤J.length∧i = .int .i64 (k:Int)∧v = .int .i64 d∧Hid (d=aftJ n (J.take k) (f+n))∧0≤d∧d≤2000000+1000000*(k:Int)∧Below w.heap.size w wr) (fun _ i _=>J.length - (intOf i).toNat)
 case atStart=>exact ⟨0,f+n,Nat.zero_le _,rfl,rfl,hd_ rfl,by omega,by omega,Below.refl _ _⟩
 case round=>
  obtain ⟨k,d,hk,rfl,rfl,hd,d0,d1,hb⟩:=hrel;by_cases hlt:k<J.length
  · obtain ⟨s,hs⟩:∃ s,J[k]? = some s:=⟨_,List.getElem?_eq_getElem hlt⟩
    obtain ⟨gb,off,hA,hg,e0,e1⟩:=(HS.out.below hb) k s hs;subst hA;obtain ⟨j0,j1,j2⟩:=HJ.out s (List.mem_of_getElem? hs);have hat:=aftJ_at (n:=n) hs (f+n);rw [← hd.out] at hat;clear hs;obtain ⟨a,b⟩:=s;simp only at hat j0 j1 j2 e0 e1;have hb2:=hb.alloc hb.size (.cells #[.int .i64 a,.int .i64 b] 90);by_cases hc:a≤d
    · by_cases hn:0<n
      · rw [if_pos ⟨hc,hn⟩] at hat
        have HAT:=hd_ hat.symm;clear hat;go_wp2
        go_roundw
        case rel=>exact ⟨k+1,d+(b - a),by omega,by go_num,by go_num,HAT,by omega,by omega,hb2⟩
        case measure=>simp [intOf];omega
      · rw [if_neg (fun h=>hn h.2)] at hat
        have HAT:=hd_ hat.symm;clear hat;go_wp2
        go_roundw
        case rel=>exact ⟨k+1,d,by omega,by go_num,rfl,HAT,by omega,by omega,hb2⟩
        case measure=>simp [intOf];omega
    · rw [if_neg (fun h=>hc h.1)] at hat
      have HAT:=hd_ hat.symm;clear hat;go_wp2
      go_roundw
      case rel=>exact ⟨k+1,d,by omega,by go_num,rfl,HAT,by omega,by omega,hb2⟩
      case measure=>simp [intOf];omega
  · obtain rfl:k=J.length:=by omega
    have hdd:=hd.out;rw [List.take_length] at hdd;have HD:=hd_ hdd;clear hdd hd;go_wp2
    go_ret
    exact ⟨by rw [← HD.out];rfl,hb⟩
theorem inst_any (W:World) (b:Nat) (day:Int) (s:Stp2) (hc:W.cell? ⟨b,0,none⟩=some (.int .i64 day)) :
 Calls Tryz.prog 95 (#[.agg (encStop s).toArray]++#[.pointer (some ⟨b,0,none⟩)]) W fun e w'=>e = .returned (.bool (inS s day))∧Below W.heap.size W w':=by
 obtain ⟨x,y⟩:=s;show Calls Tryz.prog 95 #[.agg #[.int .i64 x,.int .i64 y],.pointer (some ⟨b,0,none⟩)] W fun e w'=>e = .returned (.bool (decide (x≤day) && decide (day<y)))∧Below W.heap.size W w';have hlt:=World.block_lt_of_cell? W ⟨b,0,none⟩ hc;have hc2:=((Below.refl W.heap.size W).alloc (Nat.le_refl _) (.cells #[.int .i64 x,.int .i64 y] 90)).cell (p:=⟨b,0,none⟩) hlt;rw [hc] at hc2;have hb:=(Below.refl W.heap.size W).alloc (Nat.le_refl _) (.cells #[.int .i64 x,.int .i64 y] 90);by_cases h1:x≤day
 · have d1:decide (x≤day)=true:=decide_eq_true h1
   rw [d1,Bool.true_and];go_enter Tryz.func95,Tryz.ntmps95
   go_wp2
   go_ret
   exact ⟨rfl,hb⟩
 · have d1:decide (x≤day)=false:=decide_eq_false h1
   rw [d1,Bool.false_and];go_enter Tryz.func95,Tryz.ntmps95
   go_wp2
   go_ret
   exact ⟨rfl,hb⟩
theorem paused_any (w:World) (g:Nat) (f day:Int) (J:List Stp2) (h:ClockAt w g f J) (hl:J.length≤60) :
 Calls Tryz.prog 45 #[.pointer (some ⟨g,0,none⟩),.int .i64 day] w fun e w'=>e = .returned (.bool (anyS J day))∧Below w.heap.size w w':=by
 have eg:∀ args w,(callFunc 95 args).run Tryz.prog w = .ok (.enter 95 args) w:=enters_of Tryz.func95 (by kernel_rfl) rfl;obtain ⟨A,c,hk,hs⟩:=h;have hk1:=hk.alloc (.cells #[.int .i64 day] 3);have hb:=(Below.refl w.heap.size w).alloc (Nat.le_refl _) (.cells #[.int .i64 day] 3);have hs1:=hs.below hb;have kd:=Blk.new w 3 #[.int .i64 day]
 have hcon:=contains_any (w.alloc (.cells #[.int .i64 day] 3)) w.heap.size A J c hs1 (by simp) (by omega) (fun s=>inS s day) 95 #[.pointer (some ⟨w.heap.size,0,none⟩)] eg
  (fun W s hW=>inst_any W w.heap.size day s ((hW.cell (p:=⟨w.heap.size,0,none⟩) kd.lt).trans (by rw [kd.cell 0];rfl)))
 have e1:(J.any fun s=>inS s day)=anyS J day:=rfl;rw [e1] at hcon;generalize anyS J day=r at *;have HCON:=hd_ hcon;clear hcon e1 eg hs hs1;obtain ⟨x0,x1,x2⟩:=hk1.all;go_enter Tryz.func45,Tryz.ntmps45
 go_wp2_with fail
 refine HCON.out.mono ?_;rintro e w1 ⟨rfl,b⟩;replace hb:=hb.trans (b.mono (by simp));clear b x0 x1 HCON;go_wp2
 go_ret
 exact ⟨rfl,hb⟩
open Go.RowKit Go.ChangeShapes Go.WideShapes Go.Deep
section
variable {H : Type} {enc : TypeId × Value → H} {P : Program} {w : World} {base : Nat} {spare : Nat → Bool} {held : Bool}
theorem spot_none {w:World} {a:Addr} {k:Nat} {v:Value} (h:w.cell? (a.add k)=some v):a.add k=⟨a.block,a.off+k,none⟩:=by
 have hs:=World.cell?_spot h;obtain ⟨b,o,s⟩:=a;by_cases h0:k=0
 · subst h0
   have:s=none:=by simpa [Addr.add] using hs
   subst this;simp [Addr.add]
 · simp [Addr.add,h0]
theorem slice_len {t e:TypeId} {fuel len cap:Nat} {A:Option Addr} {x:DataW H×List MemPlace} (ht:P.underlying t=some (.slice e)) (h:DataW.trod enc P w base spare held fuel t [.slice A len cap]=some x) :
 len≤9223372036854775807:=by
 rcases open_slice ht h with ⟨h0,_⟩ | ⟨a,len',cap',m,n,D,Pl,hcs,hb,hl,hm,_⟩
 · injection h0 with h0
   injection h0 with _ h1 _;omega
 · injection hcs with hcs _
   injection hcs with hA hle hca;subst hA hle hca;unfold maxLen at hm;omega
end
theorem list_of {α:Type} {p:Nat→α→Prop} (n:Nat) (h:∀ i,i<n→∃ a,p i a):∃ l:List α,l.length=n∧∀ i a,l[i]? = some a→p i a:=by
 induction n with
 | zero=>exact ⟨[],rfl,fun i a hi=>by simp at hi⟩
 | succ n ih=>
  obtain ⟨l,hl,hp⟩:=ih (fun i hi=>h i (by omega));obtain ⟨a,ha⟩:=h n (by omega);refine ⟨l++[a],by simp [hl],fun i b hi=>?_⟩;rcases Nat.lt_or_ge i l.length with h1 | h1
  · rw [List.getElem?_append_left h1] at hi
    exact hp i b hi
  · have:i=l.length:=by
     have:=(List.getElem?_eq_some_iff.1 hi).1;simp at this;omega
    subst this;simp at hi;subst hi;rw [hl];exact ha
def Ints (w:World) (B:Nat) (A:Option Addr) (l:List Int):Prop:=IntsAt w B A l∧(∀ x∈l,wf64 x)∧l.length≤9223372036854775807
theorem ints_of {H:Type} {enc:TypeId×Value→H} {w:World} {base:Nat} {spare:Nat→Bool} {held:Bool} {fuel len cap:Nat} {A:Option Addr} {x:DataW H×List MemPlace}
 (h:DataW.trod enc Tryz.prog w base spare held fuel 22 [.slice A len cap]=some x):∃ l:List Int,l.length=len∧Ints w w.heap.size A l:=by
 have ht:=Tryz.underlying22;have he:=Tryz.underlying3;have c1:Tryz.prog.cellsOf 3=1:=by kernel_rfl
 have key:∀ i,i<len→∃ v:Int,(∃ g off,A=some ⟨g,off,none⟩∧g<w.heap.size∧w.cell? ⟨g,off+i,none⟩=some (.int .i64 v))∧wf64 v:=by
  intro i hi;rcases open_slice ht h with ⟨h0,_⟩ | ⟨a,len',cap',m,n,D,Pl,hcs,hb,hl,hm,hmm,hx,hall⟩
  · injection h0 with h0
    injection h0 with _ h1 _;omega
  · injection hcs with hcs _
    injection hcs with hA hle hca;subst hA hle hca
    have cell:∀ i,i<len→∃ v:Int,w.cell? (a.add i)=some (.int .i64 v)∧(Lit.int .i64 v).wf=true:=by
     intro i hi;obtain ⟨cs',hc,ht'⟩:=hall i (by rw [hmm];split <;> omega);rw [c1,Nat.mul_one] at hc;obtain ⟨v,rfl,-,hw⟩:=DataW.trod_int he ht';obtain ⟨_,_,hat⟩:=World.cells?_some hc;have:=hat 0 (by omega);rw [add_of_add,Nat.add_zero] at this;exact ⟨v,by rw [this];rfl,hw⟩
    obtain ⟨v0,hv0,-⟩:=cell 0 (by omega);obtain ⟨v,hv,hw⟩:=cell i hi;have ha:=spot_none hv0;have ha0:a.add 0=a:=by obtain ⟨b,o,s⟩:=a;simp [Addr.add]
    rw [ha0,Nat.add_zero] at ha;have hai:=spot_none hv;rw [hai] at hv;refine ⟨v,⟨a.block,a.off,by rw [← ha],World.block_lt_of_cell? w ⟨a.block,a.off+i,none⟩ hv,hv⟩,wf64_lit.1 hw⟩
 obtain ⟨l,hl,hp⟩:=list_of len key
 have hlen:len≤9223372036854775807:=by
  rcases open_slice ht h with ⟨h0,_⟩ | ⟨a,len',cap',m,n,D,Pl,hcs,hb,hl,hm,hmm,hx,hall⟩
  · injection h0 with h0
    injection h0 with _ h1 _;omega
  · injection hcs with hcs _
    injection hcs with hA hle hca;subst hA hle hca;unfold maxLen at hm;omega
 refine ⟨l,hl,fun i v hi=>(hp i v hi).1,fun x hx=>?_,by omega⟩;obtain ⟨i,hi⟩:=List.getElem?_of_mem hx;exact (hp i x hi).2
theorem ints_at {H:Type} {enc:TypeId×Value→H} {w:World} {base:Nat} {spare:Nat→Bool} {held:Bool} {len cap:Nat} {A:Option Addr} {d:DataW H} {p:List MemPlace}
 (h:DataW.Trod enc Tryz.prog w base spare held 22 (.slice A len cap) d p):∃ l:List Int,l.length=len∧Ints w w.heap.size A l:=by
 obtain ⟨m,hm⟩:=h;exact ints_of hm
open Go.RowKit
theorem addS_ok {l:List Int} {day n u:Int} (h:(addS l day n u).2=0) :
 isB day=true∧1≤u∧u≤5∧0≤n∧n≤1000000∧l.length≤1000∧∃ p,stepS l day n u (ymd day).1 (ymd day).2.1 (ymd day).2.2=(p,0)∧isB p=true∧(addS l day n u).1=fromS l p∧isB (fromS l p)=true:=by
 unfold addS at h ⊢
 split at h
 · cases h
 · rename_i h1
   split at h
   · cases h
   · rename_i h2
     rw [if_neg h1,if_neg h2]
     have hd:isB day=true:=by
      cases hh:isB day
      · exact absurd (.inl hh) h1
      · rfl
     refine ⟨hd,by omega,by omega,by omega,by omega,by omega,?_⟩;unfold endS at h ⊢
     split at h
     · rename_i h3
       split at h
       · rename_i h4
         rw [if_pos h3,if_pos h4];exact ⟨_,Prod.ext rfl h3.1,h3.2,rfl,h4⟩
       · cases h
     · cases h
theorem monS_ge {y m d n:Int} (hv:Vd y m d) (hn:0≤n) (h:(monS y m d n).2=0):num y m d≤(monS y m d n).1:=by
 unfold monS at h ⊢
 split at h
 · cases h
 · rename_i h1
   rw [if_neg h1];obtain ⟨hv2,he,-,-⟩:=dayS_ok h;rw [he];have a1:=num_in hv;have a2:=num_in hv2;have hb:=beg_succ y;have hy:=hv;obtain ⟨y1,y2,m1,m2,d1,d2⟩:=hy;generalize hY:(n+(12*y+m - 1)) / 12=Y at *;generalize hM:(n+(12*y+m - 1)) % 12+1=M at *;have hk:n+(12*y+m - 1)=12*Y+(M - 1):=by omega
   have hMr:1≤M∧M≤12:=by omega
   rcases Int.lt_trichotomy y Y with c | c | c
   · have:=beg_mono (show y+1≤Y by omega)
     omega
   · subst c
     rcases Int.lt_or_le m M with c2 | c2
     · have h3:=cum_succ y m m1 m2
       have h4:=cum_mono y (m+1) M (by omega) (by omega) (by omega);obtain ⟨-,-,-,-,e1,-⟩:=hv2;unfold num;omega
     · have:M=m:=by omega
       subst this;have:min d (ml y M)=d:=by omega
       rw [this];exact Int.le_refl _
   · omega
theorem nthS_le (l:List Int) (x:Int):∀ k,x≤nthS l k x
 | 0=>Int.le_refl _
 | k+1=>by
  have ih:=nthS_le l x k;show x≤if isB (nthS l k x)=true then fromS l (nthS l k x+1) else nthS l k x
  split
  · have:=fromS_le l (nthS l k x+1)
    omega
  · exact ih
def openK (p:Int→Bool) (l:List Int):Nat→Int→Int×Int
 | 0,_=>(0,10)
 | k+1,x=>if (!p x && opB l x)=true then (x,0) else openK p l k (x+1)
def openS (p:Int→Bool) (l:List Int) (x:Int):Int×Int:=openK p l (1000001 - x).toNat x
theorem openS_out {p:Int→Bool} {l:List Int} {x:Int} (h:1000000<x):openS p l x=(0,10):=by
 unfold openS;rw [show (1000001 - x).toNat=0 by omega];rfl
theorem openS_in {p:Int→Bool} {l:List Int} {x:Int} (h:x≤1000000):openS p l x=if (!p x && opB l x)=true then (x,0) else openS p l (x+1):=by
 unfold openS;rw [show (1000001 - x).toNat=(1000001 - (x+1)).toNat+1 by omega];rfl
theorem open_l (w:World) (g:Nat) (f d:Int) (J:List Stp2) (h:ClockAt w g f J) (hl:J.length≤60) (d0:0≤d) (d1:d≤100000000) (B:Nat) (A:Option Addr) (l:List Int) (c:Nat) (hA:IntsAt w B A l) (hB:B≤w.heap.size) (hll:l.length≤4611686018427387904) (hw:∀ x∈l,wf64 x) :
 Calls Tryz.prog 43 #[.int .i64 d,.func (.func 45) #[.pointer (some ⟨g,0,none⟩)] #[],.slice A l.length c] w fun e w'=>e = .returned (.tuple #[.int .i64 (openS (anyS J) l d).1,.int .i64 (openS (anyS J) l d).2])∧Below w.heap.size w w':=by
 have eg:∀ args w,(callFunc 45 args).run Tryz.prog w = .ok (.enter 45 args) w:=enters_of Tryz.func45 (by kernel_rfl) rfl;obtain ⟨r1,r2,hr⟩:∃ r1 r2,openS (anyS J) l d=(r1,r2):=⟨_,_,rfl⟩;rw [hr];have HR:=hd_ hr;have HC:=hd_ h;have HA:=hd_ hA;have HW:=hd_ hw;clear hr h hA hw;go_enter Tryz.func43,Tryz.ntmps43
 go_wp2_with fail
 go_loopw [0] (fun v wr=>∃ x:Int,d≤x∧(x≤1000001∨x=d)∧v = .int .i64 x∧Hid (openS (anyS J) l x=(r1,r2))∧Below w.heap.size w wr) (fun v _=>(1000001 - intOf v).toNat)
 case atStart=>exact ⟨d,Int.le_refl _,.inr rfl,rfl,HR,Below.refl _ _⟩
 case round=>
  obtain ⟨x,x0,x1,rfl,hx,hb⟩:=hrel;by_cases hlt:x≤1000000
  · have hin:=openS_in (p:=anyS J) (l:=l) hlt
    rw [hx.out] at hin;obtain ⟨A1,c1,hk,hs⟩:=HC.out;have hcl:ClockAt wr g f J:=⟨A1,c1,hk.below hb hk.lt,(hs.below hb).wide hb.size⟩;have hpa:=paused_any wr g f x J hcl hl;clear hk hs hcl hx
    cases hp:anyS J x with
    | true=>
     rw [hp] at hpa hin;rw [if_neg (by simp)] at hin;have HIN:=hd_ hin.symm;have HP:=hd_ hpa;clear hin hpa hp;go_wp2_with fail
     refine HP.out.mono ?_;rintro e w1 ⟨rfl,b⟩;replace hb:=Below.then hb b;clear b HP;go_wp2
     go_roundw
     case rel=>exact ⟨x+1,by omega,by omega,by go_num,HIN,hb⟩
     case measure=>simp [intOf];omega
    | false=>
     rw [hp] at hpa hin;have HP:=hd_ hpa;have hwk:=fun W b=>work_any W B A l c (HA.out.below (Below.mono (Below.then hb b) hB)) (Nat.le_trans hB (Below.then hb b).size) hll HW.out x;clear hpa hp
     cases ho:opB l x with
     | true=>
      rw [ho,if_pos (by rfl)] at hin;rw [ho] at hwk;have HIN:=hd_ hin;have HWK:=hd_ hwk;clear hin hwk ho;go_wp2_with fail
      refine HP.out.mono ?_;rintro e w1 ⟨rfl,b⟩;go_wp2_with fail
      refine (HWK.out _ b).mono ?_;rintro e w2 ⟨rfl,b2⟩;replace hb:=Below.then (Below.then hb b) b2;have hrr:=HIN.out;injection hrr with h1 h2;subst h1 h2;clear b b2 HWK HP HIN;go_wp2
      go_ret2
      exact ⟨rfl,hb⟩
     | false=>
      rw [ho,if_neg (by simp)] at hin;rw [ho] at hwk;have HIN:=hd_ hin.symm;have HWK:=hd_ hwk;clear hin hwk ho;go_wp2_with fail
      refine HP.out.mono ?_;rintro e w1 ⟨rfl,b⟩;go_wp2_with fail
      refine (HWK.out _ b).mono ?_;rintro e w2 ⟨rfl,b2⟩;replace hb:=Below.then (Below.then hb b) b2;clear b b2 HWK HP;go_wp2
      go_roundw
      case rel=>exact ⟨x+1,by omega,by omega,by go_num,HIN,hb⟩
      case measure=>simp [intOf];omega
  · have hout:=openS_out (p:=anyS J) (l:=l) (x:=x) (by omega)
    rw [hx.out] at hout;injection hout with h1 h2;subst h1 h2;clear hx;go_wp2
    go_ret2
    exact ⟨rfl,hb⟩
noncomputable def dueS (L:Lm) (l:List Int):Int×Int:=
 if prB L=true then (if (addS l L.f L.n L.u).2=0 then openS (pzB L.f L.S) l (nthU (pzB L.f L.S) L.f ((addS l L.f L.n L.u).1 - L.f).toNat) else (0,(addS l L.f L.n L.u).2)) else (0,1)
theorem pz_far {f:Int} {S:List Stp2} (hS:∀ s∈S,psB s=true):∀ x,1000000≤x→pzB f S x=false:=fun x hx=>by
 cases h:pzB f S x with
 | false=>rfl
 | true=>
  obtain ⟨_,s,hs,h1,h2⟩:=pzB_iff.1 h;have:=psB_iff.1 (hS s hs);omega
theorem add_ge {l:List Int} {d n u:Int} (h:(addS l d n u).2=0):d≤(addS l d n u).1∧isB (addS l d n u).1=true∧opB l (addS l d n u).1=true:=by
 obtain ⟨hd,u1,u2,n0,n1,-,p,hp,hpb,he,heb⟩:=addS_ok h;have hpe:=fromS_le l p
 have hpd:d≤p:=by
  unfold stepS at hp
  split at hp
  · injection hp with hp _;omega
  · split at hp
    · injection hp with hp _;omega
    · split at hp
      · obtain ⟨hv,hnum⟩:=ymd_of hd
        have:=monS_ge hv n0 (by rw [hp]);rw [hp,hnum] at this;exact this
      · split at hp
        · obtain ⟨hv,hnum⟩:=ymd_of hd
          have:=monS_ge (n:=12*n) hv (by omega) (by rw [hp]);rw [hp,hnum] at this;exact this
        · injection hp with hp _
          rw [← hp];exact nthS_le l d _
 rw [he];exact ⟨by omega,heb,fromS_op l heb⟩
theorem aftJ_bd (n:Int):∀ (J:List Stp2) (d:Int),(∀ s∈J,s.1<s.2∧s.2 - s.1≤1000000)→d≤aftJ n J d∧aftJ n J d≤d+1000000*(J.length:Int)
 | [],d,_=>⟨Int.le_refl _,by show d≤d+1000000*((0:Nat):Int);omega⟩
 | s::J,d,h=>by
  obtain ⟨h1,h2⟩:=h s (by simp);have ih:=aftJ_bd n J (if s.1≤d∧0<n then d+(s.2 - s.1) else d) (fun t ht=>h t (by simp [ht]));show d≤aftJ n J (if s.1≤d∧0<n then d+(s.2 - s.1) else d)∧aftJ n J (if s.1≤d∧0<n then d+(s.2 - s.1) else d)≤_;rw [List.length_cons]
  split at ih <;> rename_i hc
  · rw [if_pos hc];omega
  · rw [if_neg hc];omega
theorem due_any (w:World) (L:Lm) (B:Nat) (A:Option Addr) (c:Nat) (h:LmAt w B A L) (hB:B≤w.heap.size) (C:Option Addr) (l:List Int) (cl:Nat) (hA:IntsAt w B C l) (hll:l.length≤4611686018427387904) (hw:∀ x∈l,wf64 x) :
 Calls Tryz.prog 14 #[.agg (L.cells A c),.slice C l.length cl] w fun e w'=>e = .returned (.tuple #[.int .i64 (dueS L l).1,.int .i64 (dueS L l).2])∧Below w.heap.size w w':=by
 obtain ⟨hs,hid,hsl⟩:=h;obtain ⟨r1,r2,hr⟩:∃ r1 r2,dueS L l=(r1,r2):=⟨_,_,rfl⟩;rw [hr];obtain ⟨id,n,u,f,S⟩:=L;show Calls Tryz.prog 14 #[.agg #[.string id,.int .i64 n,.int .i64 u,.int .i64 f,.slice A S.length c],.slice C l.length cl] w _;have hb:=(Below.refl w.heap.size w).alloc (Nat.le_refl _) (.cells #[.string id,.int .i64 n,.int .i64 u,.int .i64 f,.slice A S.length c] 44);have k0:=Blk.new w 44 #[.string id,.int .i64 n,.int .i64 u,.int .i64 f,.slice A S.length c];have hs1:=hs.below (hb.mono hB);have hA1:=hA.below (hb.mono hB);have hB1:B≤(w.alloc (.cells #[.string id,.int .i64 n,.int .i64 u,.int .i64 f,.slice A S.length c] 44)).heap.size:=Nat.le_trans hB hb.size;have hpr:=proper_any (w.alloc (.cells #[.string id,.int .i64 n,.int .i64 u,.int .i64 f,.slice A S.length c] 44)) ⟨id,n,u,f,S⟩ B A c hs1 hB1 hid hsl;have HPR:=hd_ hpr;have HW:=hd_ hw;have HA:=hd_ hA;have HS:=hd_ hs;have HR:=hd_ hr;clear hpr hw hA hA1 hs hs1 hr hB1;obtain ⟨t0,t1,-⟩:=k0.all
 cases hp:prB ⟨id,n,u,f,S⟩ with
 | false=>
  have h2:=HPR.out;rw [hp] at h2;have h3:=HR.out;unfold dueS at h3;rw [hp,if_neg (by simp)] at h3;injection h3 with h3 h4;subst h3 h4;have H2:=hd_ h2;clear h2 hp HPR HR;go_enter Tryz.func14,Tryz.ntmps14
  go_wp2_with fail
  refine H2.out.mono ?_;rintro e w2 ⟨rfl,b⟩;replace hb:=hb.trans (b.mono hb.size);clear b t0 t1;go_wp2
  go_ret2
  exact ⟨rfl,hb⟩
 | true=>
  have h2:=HPR.out;rw [hp] at h2;have h3:=HR.out;unfold dueS at h3;rw [hp,if_pos rfl] at h3;obtain ⟨-,hf,-,hl60,hS⟩:=prB_iff.1 hp;obtain ⟨f0,f1⟩:=(isB_iff f).1 hf;obtain ⟨a1,a2,ha⟩:∃ a1 a2,addS l f n u=(a1,a2):=⟨_,_,rfl⟩;simp only at h3 hS hl60;rw [ha] at h3;have HP:=hd_ hp;have H2:=hd_ h2;have HADD:=hd_ ha;have HSS:=hd_ hS;clear h2 hp HPR HR hf ha hS;have kk:=k0;have bb:=hb;clear k0 hb;go_enter Tryz.func14,Tryz.ntmps14
  go_wp2_with fail
  refine H2.out.mono ?_;rintro e w2 ⟨rfl,b⟩;have k2:=kk.below b kk.lt;replace bb:=bb.trans (b.mono bb.size);clear b t0 t1 kk H2;obtain ⟨t0,t1,-⟩:=k2.all;go_wp2_with fail
  have hadd:=add_any w2 B C l cl (HA.out.below (bb.mono hB)) (Nat.le_trans hB bb.size) HW.out f n u;rw [HADD.out] at hadd;refine hadd.mono ?_;rintro e w3 ⟨rfl,b⟩;have k3:=k2.below b k2.lt;replace bb:=bb.trans (b.mono bb.size);clear b t0 t1 k2 hadd;obtain ⟨t0,t1,-⟩:=k3.all;by_cases hz:a2=0
  · subst hz
    have hge:=add_ge (l:=l) (d:=f) (n:=n) (u:=u) (by rw [HADD.out]);rw [HADD.out] at hge;obtain ⟨g1,g2,g3⟩:=hge;obtain ⟨g4,g5⟩:=(isB_iff _).1 g2;simp only at g1 g4 g5;rw [if_pos rfl] at h3;have H3:=hd_ h3;clear h3 g2 g3;go_wp2_with fail
    refine (start_any w3 ⟨id,n,u,f,S⟩ B A c (HS.out.below (bb.mono hB)) (Nat.le_trans hB bb.size) HP.out).mono ?_;rintro e w4 ⟨g,J,rfl,hcl,hgood,b⟩;obtain ⟨hsep,hany,hJl,hJm⟩:=hgood;have k4:=k3.below b k3.lt;replace bb:=bb.trans (b.mono bb.size);have HSEP:=hd_ hsep;have HANY:=hd_ hany;have HJM:=hd_ hJm;simp only at hcl;clear b t0 t1 k3 hsep hany hJm;obtain ⟨t0,t1,-⟩:=k4.all;go_wp2_with fail
    refine (after_any w4 g f (a1 - f) J hcl f0 f1 (by omega) (by omega) hJl HJM.out).mono ?_;rintro e w5 ⟨rfl,b⟩
    have hcl5:ClockAt w5 g f J:=by
     obtain ⟨A5,c5,q1,q2⟩:=hcl;exact ⟨A5,c5,q1.below b q1.lt,(q2.below b).wide b.size⟩
    replace bb:=bb.trans (b.mono bb.size);have hbd:=aftJ_bd (a1 - f) J (f+(a1 - f)) (fun s hs=>by have:=HJM.out s hs;omega);have hnn:((a1 - f).toNat:Int)=a1 - f:=by omega
    have hnth:=aft_nth (f:=f) HSEP.out (by rw [HANY.out];exact pz_far HSS.out) (a1 - f).toNat;rw [hnn] at hnth;have HN:=hd_ hnth;generalize aftJ (a1 - f) J (f+(a1 - f))=D at *;clear hcl hnth hnn b t0 t1 k4;go_wp2_with fail
    refine (open_l w5 g f D J hcl5 hJl (by omega) (by omega) B C l cl (HA.out.below (bb.mono hB)) (Nat.le_trans hB bb.size) hll HW.out).mono ?_;rintro e w6 ⟨rfl,b⟩;replace bb:=bb.trans (b.mono bb.size);have hfin:openS (anyS J) l D=(r1,r2):=by rw [HN.out,HANY.out];exact H3.out
    rw [hfin];clear b hcl5 hfin hbd;go_wp2
    go_ret2
    exact ⟨rfl,bb⟩
  · rw [if_neg hz] at h3
    injection h3 with h4 h5;subst h4 h5;have hz2:(a2 != 0)=true:=by simpa using hz
    clear hz;go_wp2
    go_ret2
    exact ⟨rfl,bb⟩
theorem openK_rng (p:Int→Bool) (l:List Int):∀ (k:Nat) (x:Int),(openK p l k x).2=0→x≤(openK p l k x).1∧(openK p l k x).1<x+k∧p (openK p l k x).1=false∧opB l (openK p l k x).1=true∧∀ i,x≤i→i<(openK p l k x).1→p i=true∨opB l i=false
 | 0,x,h=>by cases h
 | k+1,x,h=>by
  have e:openK p l (k+1) x=if (!p x && opB l x)=true then (x,0) else openK p l k (x+1):=rfl;rw [e] at h ⊢;by_cases hc:(!p x && opB l x)=true
  · rw [if_pos hc] at h ⊢
    rw [Bool.and_eq_true,Bool.not_eq_true'] at hc;exact ⟨Int.le_refl _,by show x<x+((k+1:Nat):Int);omega,hc.1,hc.2,fun i h1 h2=>by have h2:i<x:=h2;omega⟩
  · rw [if_neg hc] at h ⊢
    obtain ⟨a,b,c,d,g⟩:=openK_rng p l k (x+1) h;refine ⟨by omega,by omega,c,d,fun i h1 h2=>?_⟩;by_cases hi:i=x
    · subst hi
      cases h3:p i with
      | true=>exact .inl rfl
      | false=>
       cases h4:opB l i with
       | false=>exact .inr rfl
       | true=>rw [h3,h4] at hc;exact absurd rfl hc
    · exact g i (by omega) h2
theorem openS_ok {p:Int→Bool} {l:List Int} {x:Int} (h:(openS p l x).2=0):x≤(openS p l x).1∧(openS p l x).1≤1000000∧p (openS p l x).1=false∧opB l (openS p l x).1=true∧∀ i,x≤i→i<(openS p l x).1→p i=true∨opB l i=false:=by
 obtain ⟨a,b,c,d,g⟩:=openK_rng p l _ x h;unfold openS;exact ⟨a,by omega,c,d,g⟩
theorem due_day {L:Lm} {l:List Int} (h:(dueS L l).2=0):prB L=true∧isB L.f=true∧L.f≤(dueS L l).1∧(dueS L l).1≤1000000:=by
 unfold dueS at h ⊢
 cases hp:prB L with
 | false=>rw [hp,if_neg (by simp)] at h;cases h
 | true=>
  rw [hp,if_pos rfl] at h;rw [if_pos rfl];obtain ⟨-,hf,-,-,hS⟩:=prB_iff.1 hp;by_cases ha:(addS l L.f L.n L.u).2=0
  · rw [if_pos ha] at h ⊢
    obtain ⟨g1,g2,g3⟩:=add_ge ha;obtain ⟨h1,h2,-⟩:=openS_ok h;obtain ⟨n1,-⟩:=nthU_spec (pz_far (f:=L.f) hS) L.f ((addS l L.f L.n L.u).1 - L.f).toNat;exact ⟨rfl,hf,by omega,h2⟩
  · rw [if_neg ha] at h
    exact absurd h ha
end Go.Proofs.YtknchlpcpgflkaaGreatDoor
