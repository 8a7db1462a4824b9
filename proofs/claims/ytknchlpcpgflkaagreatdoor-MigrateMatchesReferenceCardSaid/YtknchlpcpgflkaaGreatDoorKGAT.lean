import Derived.Test.YtknchlpcpgflkaaGreatDoorKTj
set_option maxRecDepth 100000
set_option maxHeartbeats 16000000
namespace Go.Proofs.YtknchlpcpgflkaaGreatDoor.Lim
open Go.Proofs.YtknchlpcpgflkaaGreatDoor
open Go.RowKit Go.Shelf
theorem letter_any (w:World) (c:UInt8):Calls Tryz.prog 152 #[.int .u8 (c.toNat:Int)] w fun e w'=>e = .returned (.bool (letB c))∧w=w':=by
 have hl:letB c=(decide (97≤c.toNat∧c.toNat≤122) || decide (65≤c.toNat∧c.toNat≤90)):=rfl;obtain ⟨r,hr⟩:∃ r,letB c=r:=⟨_,rfl⟩;rw [hr];rw [hr] at hl;have HL:=hd_ hl;clear hl hr;have h255:=c.toNat_lt;rcases (by omega:c.toNat<65∨(65≤c.toNat∧c.toNat≤90)∨(90<c.toNat∧c.toNat<97)∨(97≤c.toNat∧c.toNat≤122)∨122<c.toNat) with h | h | h | h | h <;> cases d90:decide ((c.toNat:Int)≤90) <;> cases d122:decide ((c.toNat:Int)≤122)
 all_goals try (exfalso;simp at d90 d122;omega)
 all_goals
  go_enter Tryz.func152,Tryz.ntmps152
  go_wp2
  go_ret
  exact ⟨by rw [HL.out];simp;omega,rfl⟩
theorem digit_any (w:World) (c:UInt8):Calls Tryz.prog 174 #[.int .u8 (c.toNat:Int)] w fun e w'=>e = .returned (.bool (decide (48≤c.toNat∧c.toNat≤57)))∧w=w':=by
 obtain ⟨r,hr⟩:∃ r,decide (48≤c.toNat∧c.toNat≤57)=r:=⟨_,rfl⟩;rw [hr];have HL:=hd_ hr;clear hr;have h255:=c.toNat_lt;rcases (by omega:c.toNat<48∨(48≤c.toNat∧c.toNat≤57)∨57<c.toNat) with h | h | h <;> cases d57:decide ((c.toNat:Int)≤57)
 all_goals try (exfalso;simp at d57;omega)
 all_goals
  go_enter Tryz.func174,Tryz.ntmps174
  go_wp2
  go_ret
  exact ⟨by rw [← HL.out];simp;omega,rfl⟩
def wrdB (c:UInt8):Bool:=letB c || digB c
theorem word_any (w:World) (c:UInt8):Calls Tryz.prog 151 #[.int .u8 (c.toNat:Int)] w fun e w'=>e = .returned (.bool (wrdB c))∧w=w':=by
 have hw:wrdB c=(letB c || (decide (48≤c.toNat∧c.toNat≤57) || decide (c.toNat=95))):=rfl;have h1:=fun W=>letter_any W c;have h2:=fun W=>digit_any W c;obtain ⟨r,hr⟩:∃ r,wrdB c=r:=⟨_,rfl⟩;rw [hr];rw [hr] at hw;clear hr;generalize letB c=b1 at *;generalize decide (48≤c.toNat∧c.toNat≤57)=b2 at *;have H1:=hd_ h1;have H2:=hd_ h2;have HW:=hd_ hw;clear h1 h2 hw
 cases b1 with
 | true=>
  go_enter Tryz.func151,Tryz.ntmps151
  go_wp2_with fail
  refine (H1.out _).mono ?_;rintro e w1 ⟨rfl,rfl⟩;go_wp2
  go_ret
  exact ⟨by rw [HW.out];rfl,rfl⟩
 | false=>
  cases b2 with
  | true=>
   go_enter Tryz.func151,Tryz.ntmps151
   go_wp2_with fail
   refine (H1.out _).mono ?_;rintro e w1 ⟨rfl,rfl⟩;go_wp2_with fail
   refine (H2.out _).mono ?_;rintro e w1 ⟨rfl,rfl⟩;go_wp2
   go_ret
   exact ⟨by rw [HW.out];rfl,rfl⟩
  | false=>
   cases e95:((c.toNat:Int) == 95)
   all_goals
    go_enter Tryz.func151,Tryz.ntmps151
    go_wp2_with fail
    refine (H1.out _).mono ?_;rintro e w1 ⟨rfl,rfl⟩;go_wp2_with fail
    refine (H2.out _).mono ?_;rintro e w1 ⟨rfl,rfl⟩;go_wp2
    go_ret
    exact ⟨by rw [HW.out];simp at e95;simp;omega,rfl⟩
theorem wrd_go:∀ (l:List UInt8) (i:Nat),0<i→nmGo i l=l.all wrdB
 | [],_,_=>rfl
 | c::l,i,h=>by
  show (okAt i c && nmGo (i+1) l)=(wrdB c && l.all wrdB);rw [wrd_go l (i+1) (by omega)];unfold okAt wrdB;rw [decide_eq_true h,Bool.true_and]
theorem nm_wrd (l:List UInt8):nmB l=match l with
 | []=>false
 | c::cs=>letB c && (cs.all wrdB && decide ((c::cs).length≤24)):=by
 cases l with
 | nil=>rfl
 | cons c cs=>
  show ((okAt 0 c && nmGo 1 cs) && (true && decide ((c::cs).length≤24)))=_;rw [wrd_go cs 1 (by omega)];unfold okAt;simp [Bool.and_assoc]
theorem wrd_no {l:List UInt8} {c:UInt8} (h:c∈l) (hc:wrdB c=false):nmB l=false:=by
 rw [nm_wrd]
 cases l with
 | nil=>rfl
 | cons d cs=>
  simp only;rcases List.mem_cons.1 h with rfl | h
  · unfold wrdB at hc
    rw [(Bool.or_eq_false_iff.1 hc).1];rfl
  · have:cs.all wrdB=false:=by
     rw [List.all_eq_false];exact ⟨c,h,by rw [hc];simp⟩
    rw [this];simp
theorem name_any (w:World) (s:ByteArray) (hs:s.size≤9223372036854775807):Calls Tryz.prog 129 #[.string s] w fun e w'=>e = .returned (.bool (nmB s.data.toList))∧w=w':=by
 have hsz:s.data.toList.length=s.size:=rfl;have HL:=hd_ hsz;obtain ⟨r,hr⟩:∃ r,r=nmB s.data.toList:=⟨_,rfl⟩;rw [← hr];have HR:=hd_ hr;clear hsz hr;go_enter Tryz.func129,Tryz.ntmps129
 go_wp2_with fail
 go_loop [3] (fun i=>∃ k:Nat,k≤s.size∧i = .int .i64 (k:Int)∧Hid ((s.data.toList.take k).all wrdB=true)) (fun i=>s.size - (intOf i).toNat)
 case atStart=>exact ⟨0,Nat.zero_le _,rfl,hd_ rfl⟩
 case round=>
  obtain ⟨k,hk,rfl,hn⟩:=hrel;by_cases hlt:k<s.size
  · obtain ⟨c,hc⟩:∃ c,s.data.toList[k]? = some c:=⟨_,List.getElem?_eq_getElem (by rw [HL.out];exact hlt)⟩
    have hget:s[k]=c:=by
     obtain ⟨h1,h2⟩:=List.getElem?_eq_some_iff.1 hc;rw [← h2];rfl
    have hwd:=fun W=>word_any W c;have HC:=hd_ hc;clear hc
    cases hb:wrdB c with
    | true=>
     rw [hb] at hwd
     have hnx:(s.data.toList.take (k+1)).all wrdB=true:=by
      obtain ⟨h1,h2⟩:=List.getElem?_eq_some_iff.1 HC.out;rw [List.take_succ_eq_append_getElem h1,h2,List.all_append,hn.out];simp [hb]
     have HX:=hd_ hnx;have HW:=hd_ hwd;clear hnx hb hwd;go_wp2_with fail
     refine (HW.out _).mono ?_;rintro e w1 ⟨rfl,rfl⟩;go_wp2
     go_round
     case rel=>exact ⟨k+1,by omega,by go_num,HX⟩
     case measure=>simp [intOf];omega
    | false=>
     rw [hb] at hwd;have hno:=HR.out.trans (wrd_no (List.mem_of_getElem? HC.out) hb);have HE:=hd_ hno;have HW:=hd_ hwd;clear hno hb hwd;go_wp2_with fail
     refine (HW.out _).mono ?_;rintro e w1 ⟨rfl,rfl⟩;go_wp2
     go_ret
     exact ⟨by rw [HE.out];rfl,rfl⟩
  · obtain rfl:k=s.size:=by omega
    have hall:=hn.out;rw [List.take_of_length_le (by rw [HL.out];exact Nat.le_refl _)] at hall;clear hn
    cases hcs:s.data.toList with
    | nil=>
     have hz:s.size=0:=by rw [← HL.out,hcs];rfl
     have hz2:s.size≤0:=by omega
     have HE:Hid (r=false):=hd_ (by rw [HR.out,hcs];rfl);clear hz hall hcs;have d0:decide (0<(s.size:Int))=false:=decide_eq_false (by omega);go_wp2
     go_ret
     exact ⟨by rw [HE.out];rfl,rfl⟩
    | cons c cs=>
     have hz:0<s.size:=by rw [← HL.out,hcs];simp
     have hget:s[0]=c:=by
      have h1:s.data.toList[0]? = some c:=by rw [hcs];rfl
      obtain ⟨h1,h2⟩:=List.getElem?_eq_some_iff.1 h1;rw [← h2];rfl
     have hle:=fun W=>letter_any W c
     have hrr:r=(letB c && decide ((s.size:Int)≤24)):=by
      rw [HR.out,nm_wrd,hcs];rw [hcs] at hall
      have h2:cs.all wrdB=true:=by
       rw [List.all_cons,Bool.and_eq_true] at hall;exact hall.2
      simp only;rw [h2,Bool.true_and]
      congr 1
      rw [decide_eq_decide,← HL.out,hcs];omega
     generalize letB c=b at *;have HRR:=hd_ hrr;have HLE:=hd_ hle;clear hrr hle hall hcs;by_cases h24:s.size≤24
     · have e24:Hid (decide ((s.size:Int)≤24)=true):=hd_ (decide_eq_true (by omega))
       go_wp2_with fail
       refine (HLE.out _).mono ?_;rintro e w1 ⟨rfl,rfl⟩
       cases b
       all_goals
        go_wp2
        go_ret
        exact ⟨by rw [HRR.out,e24.out];rfl,rfl⟩
     · have d24:decide ((s.size:Int)≤24)=false:=decide_eq_false (by omega)
       go_wp2
       go_ret
       exact ⟨by rw [HRR.out,d24,Bool.and_false];rfl,rfl⟩
theorem rStop_any (w:World) (a b:Int):Calls Tryz.prog 72 #[.agg #[.int .i64 a,.int .i64 b]] w fun e w'=>e = .returned (.bool (psB (a,b)))∧Below w.heap.size w w':=by
 have hb:=(Below.refl w.heap.size w).alloc (Nat.le_refl _) (.cells #[.int .i64 a,.int .i64 b] 90)
 cases hp:psB (a,b) with
 | true=>
  obtain ⟨h0,h1,h2⟩:=psB_iff.1 hp;simp only at h0 h1 h2;clear hp;go_enter Tryz.func72,Tryz.ntmps72
  go_wp2
  go_ret
  exact ⟨rfl,hb⟩
 | false=>
  have h:a<0∨(0≤a∧b<a)∨(0≤a∧a≤b∧1000000<b):=by
   simp [psB] at hp;omega
  clear hp;rcases h with h | ⟨h,h1⟩ | ⟨h,h1,h2⟩
  all_goals cases d6:decide (b≤1000000)
  all_goals cases d7:decide (a≤b)
  all_goals try (exfalso;simp at d6 d7;omega)
  all_goals
   go_enter Tryz.func72,Tryz.ntmps72
   go_wp2
   go_ret
   exact ⟨rfl,hb⟩
theorem rTerm_any (w:World) (n u:Int):Calls Tryz.prog 126 #[.agg #[.int .i64 n,.int .i64 u]] w fun e w'=>e = .returned (.bool (ptB n u))∧Below w.heap.size w w':=by
 have hb:=(Below.refl w.heap.size w).alloc (Nat.le_refl _) (.cells #[.int .i64 n,.int .i64 u] 41)
 cases hp:ptB n u with
 | true=>
  obtain ⟨h0,h1,h2,h3⟩:=ptB_iff.1 hp;clear hp;go_enter Tryz.func126,Tryz.ntmps126
  go_wp2
  go_ret
  exact ⟨rfl,hb⟩
 | false=>
  have h:u<1∨(1≤u∧5<u)∨(1≤u∧u≤5∧n<0)∨(1≤u∧u≤5∧0≤n∧1000000<n):=by
   simp [ptB] at hp;omega
  clear hp;rcases h with h | ⟨h,h1⟩ | ⟨h,h1,h2⟩ | ⟨h,h1,h2,h3⟩
  all_goals cases d6:decide (n≤1000000)
  all_goals try (exfalso;simp at d6;omega)
  all_goals
   go_enter Tryz.func126,Tryz.ntmps126
   go_wp2
   go_ret
   exact ⟨rfl,hb⟩
theorem rIs_any (w:World) (n:Int):Calls Tryz.prog 125 #[.int .i64 n] w fun e w'=>e = .returned (.bool (isB n))∧w=w':=by
 by_cases h0:0≤n
 · by_cases h1:n≤1000000
   · rw [(isB_iff n).2 ⟨h0,h1⟩]
     go_enter Tryz.func125,Tryz.ntmps125
     go_wp2
     go_ret
     exact ⟨rfl,rfl⟩
   · rw [isB_no (.inr (by omega))]
     go_enter Tryz.func125,Tryz.ntmps125
     go_wp2
     go_ret
     exact ⟨rfl,rfl⟩
 · rw [isB_no (.inl (by omega))]
   go_enter Tryz.func125,Tryz.ntmps125
   go_wp2
   go_ret
   exact ⟨rfl,rfl⟩
def mostU (u:Int):Int:=if u=5 then 3000 else if u=4 then 12 else if u=3 then 150 else if u=2 then 600 else 4000
def shB (n u:Int):Bool:=decide (n≤mostU u) || decide (1000000<n)
theorem short_any (w:World) (n u:Int):Calls Tryz.prog 73 #[.agg #[.int .i64 n,.int .i64 u]] w fun e w'=>e = .returned (.bool (shB n u))∧Below w.heap.size w w':=by
 have hb:=(Below.refl w.heap.size w).alloc (Nat.le_refl _) (.cells #[.int .i64 n,.int .i64 u] 41);have key:∀ m:Int,mostU u=m→shB n u=(decide (n≤m) || decide (1000000<n)):=fun m h=>by unfold shB;rw [h]
 have hcase:(u=5∧mostU u=3000)∨(u=4∧mostU u=12)∨(u=3∧mostU u=150)∨(u=2∧mostU u=600)∨((u == 5)=false∧(u == 4)=false∧(u == 3)=false∧(u == 2)=false∧mostU u=4000):=by
  unfold mostU;by_cases h5:u=5
  · exact .inl ⟨h5,by rw [if_pos h5]⟩
  by_cases h4:u=4
  · exact .inr (.inl ⟨h4,by rw [if_neg h5,if_pos h4]⟩)
  by_cases h3:u=3
  · exact .inr (.inr (.inl ⟨h3,by rw [if_neg h5,if_neg h4,if_pos h3]⟩))
  by_cases h2:u=2
  · exact .inr (.inr (.inr (.inl ⟨h2,by rw [if_neg h5,if_neg h4,if_neg h3,if_pos h2]⟩)))
  · exact .inr (.inr (.inr (.inr ⟨by simpa using h5,by simpa using h4,by simpa using h3,by simpa using h2,by rw [if_neg h5,if_neg h4,if_neg h3,if_neg h2]⟩)))
 obtain ⟨r,hr⟩:∃ r,shB n u=r:=⟨_,rfl⟩;rw [hr];rcases hcase with ⟨h,hm⟩ | ⟨h,hm⟩ | ⟨h,hm⟩ | ⟨h,hm⟩ | ⟨h,h4,h3,h2,hm⟩
 all_goals
  have hk:=key _ hm;rw [hr] at hk;have HK:=hd_ hk;clear hk hm key hr
 · subst h
   by_cases hle:n≤3000
   · have e:Hid (decide (n≤3000)=true):=hd_ (decide_eq_true hle)
     go_enter Tryz.func73,Tryz.ntmps73
     go_wp2
     go_ret
     exact ⟨by rw [HK.out,e.out];rfl,hb⟩
   · have e:Hid (decide (n≤3000)=false):=hd_ (decide_eq_false hle)
     go_enter Tryz.func73,Tryz.ntmps73
     go_wp2
     go_ret
     exact ⟨by rw [HK.out,e.out];rfl,hb⟩
 · subst h
   by_cases hle:n≤12
   · have e:Hid (decide (n≤12)=true):=hd_ (decide_eq_true hle)
     go_enter Tryz.func73,Tryz.ntmps73
     go_wp2
     go_ret
     exact ⟨by rw [HK.out,e.out];rfl,hb⟩
   · have e:Hid (decide (n≤12)=false):=hd_ (decide_eq_false hle)
     go_enter Tryz.func73,Tryz.ntmps73
     go_wp2
     go_ret
     exact ⟨by rw [HK.out,e.out];rfl,hb⟩
 · subst h
   by_cases hle:n≤150
   · have e:Hid (decide (n≤150)=true):=hd_ (decide_eq_true hle)
     go_enter Tryz.func73,Tryz.ntmps73
     go_wp2
     go_ret
     exact ⟨by rw [HK.out,e.out];rfl,hb⟩
   · have e:Hid (decide (n≤150)=false):=hd_ (decide_eq_false hle)
     go_enter Tryz.func73,Tryz.ntmps73
     go_wp2
     go_ret
     exact ⟨by rw [HK.out,e.out];rfl,hb⟩
 · subst h
   by_cases hle:n≤600
   · have e:Hid (decide (n≤600)=true):=hd_ (decide_eq_true hle)
     go_enter Tryz.func73,Tryz.ntmps73
     go_wp2
     go_ret
     exact ⟨by rw [HK.out,e.out];rfl,hb⟩
   · have e:Hid (decide (n≤600)=false):=hd_ (decide_eq_false hle)
     go_enter Tryz.func73,Tryz.ntmps73
     go_wp2
     go_ret
     exact ⟨by rw [HK.out,e.out];rfl,hb⟩
 · by_cases hle:n≤4000
   · have e:Hid (decide (n≤4000)=true):=hd_ (decide_eq_true hle)
     go_enter Tryz.func73,Tryz.ntmps73
     go_wp2
     go_ret
     exact ⟨by rw [HK.out,e.out];rfl,hb⟩
   · have e:Hid (decide (n≤4000)=false):=hd_ (decide_eq_false hle)
     go_enter Tryz.func73,Tryz.ntmps73
     go_wp2
     go_ret
     exact ⟨by rw [HK.out,e.out];rfl,hb⟩
theorem all_take {S:List Stp2} {p:Stp2→Bool} {k:Nat} {s:Stp2} (h:S[k]? = some s):(S.take (k+1)).all p=((S.take k).all p && p s):=by
 obtain ⟨hk,hs⟩:=List.getElem?_eq_some_iff.1 h;rw [List.take_succ_eq_append_getElem hk,hs,List.all_append];simp
theorem any_take {S:List Stp2} {p:Stp2→Bool} {k:Nat} {s:Stp2} (h:S[k]? = some s):(S.take (k+1)).any p=((S.take k).any p || p s):=by
 obtain ⟨hk,hs⟩:=List.getElem?_eq_some_iff.1 h;rw [List.take_succ_eq_append_getElem hk,hs,List.any_append];simp
theorem rProper_any (w:World) (L:Lm) (B:Nat) (A:Option Addr) (c:Nat) (h:LmAt w B A L) (hB:B≤w.heap.size) :
 Calls Tryz.prog 124 #[.agg (L.cells A c)] w fun e w'=>e = .returned (.bool (prB L))∧Below w.heap.size w w':=by
 obtain ⟨hs,hid,hsl⟩:=h;obtain ⟨id,n,u,f,S⟩:=L;show Calls Tryz.prog 124 #[.agg #[.string id,.int .i64 n,.int .i64 u,.int .i64 f,.slice A S.length c]] w _;have hr:prB ⟨id,n,u,f,S⟩=(nmB id.data.toList && isB f && ptB n u && decide (S.length≤60) && S.all psB):=rfl;obtain ⟨r,hrr⟩:∃ r,prB ⟨id,n,u,f,S⟩=r:=⟨_,rfl⟩;rw [hrr] at hr ⊢;clear hrr;have hb:=(Below.refl w.heap.size w).alloc (Nat.le_refl _) (.cells #[.string id,.int .i64 n,.int .i64 u,.int .i64 f,.slice A S.length c] 44);have k0:=Blk.new w 44 #[.string id,.int .i64 n,.int .i64 u,.int .i64 f,.slice A S.length c];simp only at hid hsl hs;have h1:=fun W=>name_any W id hid;have h2:=fun W=>rIs_any W f;have h3:=fun W=>rTerm_any W n u;have HS:=hd_ hs;have HR:=hd_ hr;clear hs hr;go_enter Tryz.func124,Tryz.ntmps124
 go_wp2_with fail
 go_loopw [3] (fun i wr=>∃ k:Nat,k≤S.length∧i = .int .i64 (k:Int)∧Hid ((S.take k).all psB=true)∧Blk wr w.heap.size 44 #[.string id,.int .i64 n,.int .i64 u,.int .i64 f,.slice A S.length c]∧Below w.heap.size w wr) (fun i _=>S.length - (intOf i).toNat)
 case atStart=>exact ⟨0,Nat.zero_le _,rfl,hd_ rfl,k0,hb⟩
 case round=>
  clear k0 hb;obtain ⟨k,hk,rfl,hall,k0,hb⟩:=hrel;obtain ⟨t0,t1,-⟩:=k0.all;by_cases hlt:k<S.length
  · obtain ⟨s,hss⟩:∃ s,S[k]? = some s:=⟨_,List.getElem?_eq_getElem hlt⟩
    obtain ⟨gb,off,hA,hg,e0,e1⟩:=(HS.out.below (hb.mono hB)) k s hss;subst hA;have hat:=all_take (p:=psB) hss;rw [hall.out,Bool.true_and] at hat;have hmem:=List.mem_of_getElem? hss;clear hss;obtain ⟨a,b⟩:=s;simp only at e0 e1;have hst:=fun W=>rStop_any W a b
    cases hp:psB (a,b) with
    | true=>
     rw [hp] at hat hst;have HAT:=hd_ hat;have HST:=hd_ hst;clear hat hst hp hmem h1 h2 h3;go_wp2_with fail
     refine (HST.out _).mono ?_;rintro e w1 ⟨rfl,b1⟩;have k1:=k0.below b1 k0.lt;replace hb:=hb.trans (b1.mono hb.size);clear b1 k0 t0 t1 e0 e1;go_wp2
     go_roundw
     case rel=>exact ⟨k+1,by omega,by go_num,HAT,k1,hb⟩
     case measure=>simp [intOf];omega
    | false=>
     have hno:r=false:=by
      rw [HR.out];have:S.all psB=false:=by rw [List.all_eq_false];exact ⟨_,hmem,by rw [hp];simp⟩
      rw [this,Bool.and_false]
     rw [hp] at hst;have HNO:=hd_ hno;have HST:=hd_ hst;clear hat hst hp hmem hno h1 h2 h3;go_wp2_with fail
     refine (HST.out _).mono ?_;rintro e w1 ⟨rfl,b1⟩;replace hb:=hb.trans (b1.mono hb.size);clear b1 k0 t0 t1 e0 e1;go_wp2
     go_ret
     exact ⟨by rw [HNO.out];rfl,hb⟩
  · obtain rfl:k=S.length:=by omega
    have hal:=hall.out;rw [List.take_length] at hal;have hrr:=HR.out;rw [hal,Bool.and_true] at hrr;have HRR:=hd_ hrr;generalize nmB id.data.toList=b1 at *;generalize isB f=b2 at *;generalize ptB n u=b3 at *;have H1:=hd_ h1;have H2:=hd_ h2;have H3:=hd_ h3;clear hrr hal hall HR h1 h2 h3
    cases b1 with
    | false=>
     go_wp2_with fail
     refine (H1.out _).mono ?_;rintro e w1 ⟨rfl,rfl⟩;go_wp2
     go_ret
     exact ⟨by rw [HRR.out];rfl,hb⟩
    | true=>
     cases b2 with
     | false=>
      go_wp2_with fail
      refine (H1.out _).mono ?_;rintro e w1 ⟨rfl,rfl⟩;go_wp2_with fail
      refine (H2.out _).mono ?_;rintro e w1 ⟨rfl,rfl⟩;go_wp2
      go_ret
      exact ⟨by rw [HRR.out];rfl,hb⟩
     | true=>
      cases b3 with
      | false=>
       go_wp2_with fail
       refine (H1.out _).mono ?_;rintro e w1 ⟨rfl,rfl⟩;go_wp2_with fail
       refine (H2.out _).mono ?_;rintro e w1 ⟨rfl,rfl⟩;go_wp2_with fail
       refine (H3.out _).mono ?_;rintro e w1 ⟨rfl,b⟩;replace hb:=hb.trans (b.mono hb.size);clear b t0 t1;go_wp2
       go_ret
       exact ⟨by rw [HRR.out];rfl,hb⟩
      | true=>
       cases h60:decide (S.length≤60)
       all_goals
        have hrr:=HRR.out;rw [h60] at hrr;have HE:=hd_ hrr;clear hrr HRR;have h60':decide ((S.length:Int)≤60)=decide (S.length≤60):=by rw [decide_eq_decide];omega
        rw [h60] at h60';clear h60;go_wp2_with fail
        refine (H1.out _).mono ?_;rintro e w1 ⟨rfl,rfl⟩;go_wp2_with fail
        refine (H2.out _).mono ?_;rintro e w1 ⟨rfl,rfl⟩;go_wp2_with fail
        refine (H3.out _).mono ?_;rintro e w1 ⟨rfl,b⟩;have k1:=k0.below b k0.lt;replace hb:=hb.trans (b.mono hb.size);clear b t0 t1 k0;obtain ⟨t0,t1,-⟩:=k1.all;go_wp2
        go_ret
        exact ⟨by rw [HE.out];rfl,hb⟩
theorem rPaused_any (w:World) (L:Lm) (day:Int) (B:Nat) (A:Option Addr) (c:Nat) (h:LmAt w B A L) (hB:B≤w.heap.size) :
 Calls Tryz.prog 149 #[.agg (L.cells A c),.int .i64 day] w fun e w'=>e = .returned (.bool (pzB L.f L.S day))∧Below w.heap.size w w':=by
 obtain ⟨hs,hid,hsl⟩:=h;obtain ⟨id,n,u,f,S⟩:=L;show Calls Tryz.prog 149 #[.agg #[.string id,.int .i64 n,.int .i64 u,.int .i64 f,.slice A S.length c],.int .i64 day] w fun e w'=>e = .returned (.bool (pzB f S day))∧Below w.heap.size w w';have hr:pzB f S day=(decide (f<day) && S.any fun s=>inS s day):=rfl;obtain ⟨r,hrr⟩:∃ r,pzB f S day=r:=⟨_,rfl⟩;rw [hrr] at hr ⊢;clear hrr;have hb:=(Below.refl w.heap.size w).alloc (Nat.le_refl _) (.cells #[.string id,.int .i64 n,.int .i64 u,.int .i64 f,.slice A S.length c] 44);have k0:=Blk.new w 44 #[.string id,.int .i64 n,.int .i64 u,.int .i64 f,.slice A S.length c];have hs1:=hs.below (hb.mono hB);simp only at hid hsl hs1;obtain ⟨t0,t1,-⟩:=k0.all;have HR:=hd_ hr;have HS:=hd_ hs1;clear hr hs hs1;go_enter Tryz.func149,Tryz.ntmps149
 go_wp2_with fail
 generalize w.alloc (.cells #[.string id,.int .i64 n,.int .i64 u,.int .i64 f,.slice A S.length c] 44)=w1 at *;go_loop [5] (fun i=>∃ k:Nat,k≤S.length∧i = .int .i64 (k:Int)∧Hid ((decide (f<day) && (S.take k).any fun s=>inS s day)=false)) (fun i=>S.length - (intOf i).toNat)
 case atStart=>exact ⟨0,Nat.zero_le _,rfl,hd_ (by rw [List.take_zero];simp)⟩
 case round=>
  obtain ⟨k,hk,rfl,hno⟩:=hrel;by_cases hlt:k<S.length
  · obtain ⟨s,hss⟩:∃ s,S[k]? = some s:=⟨_,List.getElem?_eq_getElem hlt⟩
    obtain ⟨gb,off,hA,hg,e0,e1⟩:=HS.out k s hss;subst hA;have hat:=any_take (p:=fun s=>inS s day) hss;have hmem:=List.mem_of_getElem? hss;clear hss;obtain ⟨a,b⟩:=s;simp only at e0 e1;have hin:inS (a,b) day=(decide (a≤day) && decide (day<b)):=rfl
    cases d1:decide (f<day) with
    | false=>
     have hfd:¬ f<day:=of_decide_eq_false d1;have HNX:Hid ((decide (f<day) && (S.take (k+1)).any fun s=>inS s day)=false):=hd_ (by rw [d1];rfl);clear hat hin hmem;go_wp2
     go_round
     case rel=>exact ⟨k+1,by omega,by go_num,hd_ (by have:=HNX.out;rw [d1] at this;exact this)⟩
     case measure=>simp [intOf];omega
    | true=>
     have hfd:f<day:=of_decide_eq_true d1;have hno2:=hno.out;rw [d1,Bool.true_and] at hno2
     cases hi:inS (a,b) day with
     | true=>
      have hr2:r=true:=by
       rw [HR.out,d1,Bool.true_and];exact List.any_eq_true.2 ⟨_,hmem,hi⟩
      have HR2:=hd_ hr2;rw [hi] at hin;have h4:=inS_iff.1 hi;simp only at h4;obtain ⟨h5,h6⟩:=h4;clear hat hin hmem hno hno2 hr2 hi;go_wp2
      go_ret
      exact ⟨by rw [HR2.out];rfl,hb⟩
     | false=>
      have HNX:Hid ((decide (f<day) && (S.take (k+1)).any fun s=>inS s day)=false):=hd_ (by rw [d1,Bool.true_and,hat,hno2,hi];rfl);rw [hi] at hin;clear hat hmem hno hno2 hi;by_cases h5:a≤day
      · have d5:decide (a≤day)=true:=decide_eq_true h5
        have d6:decide (day<b)=false:=by rw [d5,Bool.true_and] at hin;exact hin.symm
        have h6:¬ day<b:=of_decide_eq_false d6;clear hin;go_wp2
        go_round
        case rel=>exact ⟨k+1,by omega,by go_num,hd_ (by have:=HNX.out;rw [d1] at this;exact this)⟩
        case measure=>simp [intOf];omega
      · clear hin
        go_wp2
        go_round
        case rel=>exact ⟨k+1,by omega,by go_num,hd_ (by have:=HNX.out;rw [d1] at this;exact this)⟩
        case measure=>simp [intOf];omega
  · obtain rfl:k=S.length:=by omega
    have hno2:=hno.out;rw [List.take_length,← HR.out] at hno2;have HE:=hd_ hno2;clear hno hno2;go_wp2
    go_ret
    exact ⟨by rw [HE.out];rfl,hb⟩
theorem below_dN {B:Nat} {w w1:World} (h:Below B w w1) (n:Nat):Below B w (w1.drewN n):=⟨h.os,h.tape,h.output,h.size,h.block⟩
def smS (S:List Stp2):Int:=(S.map fun s=>if psB s=true then s.2 - s.1 else 0).sum
theorem smS_at {S:List Stp2} {k:Nat} {s:Stp2} (h:S[k]? = some s):smS (S.take (k+1))=smS (S.take k)+if psB s=true then s.2 - s.1 else 0:=by
 obtain ⟨hk,hs⟩:=List.getElem?_eq_some_iff.1 h;unfold smS;rw [List.take_succ_eq_append_getElem hk,hs,List.map_append,List.sum_append];simp
def frB (L:Lm) (m:Nat):Bool:=decide (L.S.length≤10) && decide (L.id.size≤60) && (decide (smS L.S≤2000) && (shB L.n L.u && decide ((m:Int)≤300)))
theorem Few_any (w:World) (L:Lm) (B:Nat) (A:Option Addr) (c:Nat) (h:LmAt w B A L) (hB:B≤w.heap.size) (C:Option Addr) (m cl:Nat) (_hm:m≤9223372036854775807) :
 Calls Tryz.prog 33 #[.agg (L.cells A c),.slice C m cl,.int .i64 10] w fun e w'=>e = .returned (.bool (frB L m))∧Below w.heap.size w w':=by
 obtain ⟨hs,hid,hsl⟩:=h;obtain ⟨id,n,u,f,S⟩:=L;show Calls Tryz.prog 33 #[.agg #[.string id,.int .i64 n,.int .i64 u,.int .i64 f,.slice A S.length c],.slice C m cl,.int .i64 10] w _;have hr:frB ⟨id,n,u,f,S⟩ m=(decide (S.length≤10) && decide (id.size≤60) && (decide (smS S≤2000) && (shB n u && decide ((m:Int)≤300)))):=rfl;obtain ⟨r,hrr⟩:∃ r,frB ⟨id,n,u,f,S⟩ m=r:=⟨_,rfl⟩;rw [hrr] at hr ⊢;clear hrr;have hb:=(Below.refl w.heap.size w).alloc (Nat.le_refl _) (.cells #[.string id,.int .i64 n,.int .i64 u,.int .i64 f,.slice A S.length c] 44);have k0:=Blk.new w 44 #[.string id,.int .i64 n,.int .i64 u,.int .i64 f,.slice A S.length c];simp only at hid hsl hs;have hsh:=fun W=>short_any W n u;have HS:=hd_ hs;have HR:=hd_ hr;clear hs hr;by_cases hl:10<S.length
 · have hno:r=false:=by rw [HR.out,decide_eq_false (show ¬ S.length≤10 by omega)];rfl
   subst hno;clear HR hsh;go_enter Tryz.func33,Tryz.ntmps33
   go_wp2
   go_ret
   exact ⟨rfl,hb⟩
 have hl10:S.length≤10:=by omega
 by_cases hi:60<id.size
 · have hno:r=false:=by rw [HR.out,decide_eq_false (show ¬ id.size≤60 by omega),Bool.and_false];rfl
   subst hno;have d60:decide ((60:Int)<(id.size:Int))=true:=decide_eq_true (by omega);clear HR hsh hl;go_enter Tryz.func33,Tryz.ntmps33
   go_wp2
   go_ret
   exact ⟨rfl,hb⟩
 have hi60:id.size≤60:=by omega
 have hrr:=HR.out;rw [decide_eq_true hl10,decide_eq_true hi60,Bool.true_and,Bool.true_and] at hrr;have HRR:=hd_ hrr;have HSH:=hd_ hsh;clear hrr HR hl hi hsh;go_enter Tryz.func33,Tryz.ntmps33
 go_wp2_with fail
 go_loopw [7,8] (fun v i wr=>∃ (k:Nat) (q:Int),k≤S.length∧i = .int .i64 (k:Int)∧v = .int .i64 q∧Hid (q=smS (S.take k))∧0≤q∧q≤1000000*(k:Int)∧Blk wr w.heap.size 44 #[.string id,.int .i64 n,.int .i64 u,.int .i64 f,.slice A S.length c]∧Below w.heap.size w wr) (fun _ i _=>S.length - (intOf i).toNat)
 case atStart=>exact ⟨0,0,Nat.zero_le _,rfl,rfl,hd_ rfl,Int.le_refl _,by omega,k0,hb⟩
 case round=>
  clear k0 hb;obtain ⟨k,q,hk,rfl,rfl,hq,q0,q1,k0,hb⟩:=hrel;obtain ⟨t0,t1,-⟩:=k0.all;by_cases hlt:k<S.length
  · obtain ⟨s,hss⟩:∃ s,S[k]? = some s:=⟨_,List.getElem?_eq_getElem hlt⟩
    have hat:=smS_at hss;rw [← hq.out] at hat;have HSS:=hd_ hss;obtain ⟨gb,off,hA,hg,e0,e1⟩:=(HS.out.below (hb.mono hB)) k s hss;subst hA;clear hss;obtain ⟨a,b⟩:=s;simp only at e0 e1 hat;have hst:=fun W=>rStop_any W a b
    cases hp:psB (a,b) with
    | true=>
     rw [hp,if_pos rfl] at hat;rw [hp] at hst;obtain ⟨p0,p1,p2⟩:=psB_iff.1 hp;simp only at p0 p1 p2;have HAT:=hd_ hat.symm;have HST:=hd_ hst;clear hat hst hp;go_wp2_with fail
     refine (HST.out _).mono ?_;rintro e w1 ⟨rfl,b1⟩;have k1:=k0.below b1 k0.lt;replace hb:=hb.trans (b1.mono hb.size);clear b1 k0 t0 t1 e0 e1;obtain ⟨t0,t1,-⟩:=k1.all;obtain ⟨gb',off',hA',hg',e0,e1⟩:=(HS.out.below (hb.mono hB)) k (a,b) HSS.out;injection hA' with hA';injection hA' with hA1 hA2;subst hA1 hA2;simp only at e0 e1;go_wp2_with fail
     have ib0:(0:Int)≤(k:Int):=by omega
     have ib1:(k:Int)<(S.length:Int):=by omega
     go_quiet (fail)
     have k2:=k1.drewN nq;have hb2:=below_dN hb nq;clear k1 hb t0 t1 e0 e1;go_wp2
     go_roundw
     case rel=>exact ⟨k+1,q+(b - a),by omega,by go_num,rfl,HAT,by omega,by omega,k2,hb2⟩
     case measure=>simp [intOf];omega
    | false=>
     rw [hp,if_neg (by simp),Int.add_zero] at hat;rw [hp] at hst;have HAT:=hd_ hat.symm;have HST:=hd_ hst;clear hat hst hp;go_wp2_with fail
     refine (HST.out _).mono ?_;rintro e w1 ⟨rfl,b1⟩;have k1:=k0.below b1 k0.lt;replace hb:=hb.trans (b1.mono hb.size);clear b1 k0 t0 t1 e0 e1;go_wp2
     go_roundw
     case rel=>exact ⟨k+1,q,by omega,by go_num,rfl,HAT,q0,by omega,k1,hb⟩
     case measure=>simp [intOf];omega
  · obtain rfl:k=S.length:=by omega
    have hqq:=hq.out;rw [List.take_length] at hqq;have hrr:=HRR.out;rw [← hqq] at hrr;have HR3:=hd_ hrr;clear hqq hrr HRR hq;by_cases h2:q≤2000
    · have e2:Hid (decide (q≤2000)=true):=hd_ (decide_eq_true h2)
      generalize shB n u=b at *
      cases b with
      | true=>
       cases h3:decide ((m:Int)≤300)
       all_goals
        have hrr:=HR3.out;rw [e2.out,h3] at hrr;have HE:=hd_ hrr;clear hrr HR3;go_wp2_with fail
        refine (HSH.out _).mono ?_;rintro e w1 ⟨rfl,b1⟩;replace hb:=hb.trans (b1.mono hb.size);clear b1 k0 t0 t1;go_wp2
        go_ret
        exact ⟨by rw [HE.out];rfl,hb⟩
      | false=>
       have hrr:=HR3.out;rw [Bool.false_and,Bool.and_false] at hrr;have HE:=hd_ hrr;clear hrr HR3;go_wp2_with fail
       refine (HSH.out _).mono ?_;rintro e w1 ⟨rfl,b1⟩;replace hb:=hb.trans (b1.mono hb.size);clear b1 k0 t0 t1;go_wp2
       go_ret
       exact ⟨by rw [HE.out];rfl,hb⟩
    · have e2:decide (q≤2000)=false:=decide_eq_false h2
      have hrr:=HR3.out;rw [e2,Bool.false_and] at hrr;have HE:=hd_ hrr;clear hrr HR3;go_wp2
      go_ret
      exact ⟨by rw [HE.out];rfl,hb⟩
def frB5 (L:Lm) (m:Nat):Bool:=decide (L.S.length≤5) && decide (L.id.size≤60) && (decide (smS L.S≤2000) && (shB L.n L.u && decide ((m:Int)≤300)))
theorem Few5_any (w:World) (L:Lm) (B:Nat) (A:Option Addr) (c:Nat) (h:LmAt w B A L) (hB:B≤w.heap.size) (C:Option Addr) (m cl:Nat) (_hm:m≤9223372036854775807) :
 Calls Tryz.prog 33 #[.agg (L.cells A c),.slice C m cl,.int .i64 5] w fun e w'=>e = .returned (.bool (frB5 L m))∧Below w.heap.size w w':=by
 obtain ⟨hs,hid,hsl⟩:=h;obtain ⟨id,n,u,f,S⟩:=L;show Calls Tryz.prog 33 #[.agg #[.string id,.int .i64 n,.int .i64 u,.int .i64 f,.slice A S.length c],.slice C m cl,.int .i64 5] w _;have hr:frB5 ⟨id,n,u,f,S⟩ m=(decide (S.length≤5) && decide (id.size≤60) && (decide (smS S≤2000) && (shB n u && decide ((m:Int)≤300)))):=rfl;obtain ⟨r,hrr⟩:∃ r,frB5 ⟨id,n,u,f,S⟩ m=r:=⟨_,rfl⟩;rw [hrr] at hr ⊢;clear hrr;have hb:=(Below.refl w.heap.size w).alloc (Nat.le_refl _) (.cells #[.string id,.int .i64 n,.int .i64 u,.int .i64 f,.slice A S.length c] 44);have k0:=Blk.new w 44 #[.string id,.int .i64 n,.int .i64 u,.int .i64 f,.slice A S.length c];simp only at hid hsl hs;have hsh:=fun W=>short_any W n u;have HS:=hd_ hs;have HR:=hd_ hr;clear hs hr;by_cases hl:5<S.length
 · have hno:r=false:=by rw [HR.out,decide_eq_false (show ¬ S.length≤5 by omega)];rfl
   subst hno;clear HR hsh;go_enter Tryz.func33,Tryz.ntmps33
   go_wp2
   go_ret
   exact ⟨rfl,hb⟩
 have hl10:S.length≤5:=by omega
 by_cases hi:60<id.size
 · have hno:r=false:=by rw [HR.out,decide_eq_false (show ¬ id.size≤60 by omega),Bool.and_false];rfl
   subst hno;have d60:decide ((60:Int)<(id.size:Int))=true:=decide_eq_true (by omega);clear HR hsh hl;go_enter Tryz.func33,Tryz.ntmps33
   go_wp2
   go_ret
   exact ⟨rfl,hb⟩
 have hi60:id.size≤60:=by omega
 have hrr:=HR.out;rw [decide_eq_true hl10,decide_eq_true hi60,Bool.true_and,Bool.true_and] at hrr;have HRR:=hd_ hrr;have HSH:=hd_ hsh;clear hrr HR hl hi hsh;go_enter Tryz.func33,Tryz.ntmps33
 go_wp2_with fail
 go_loopw [7,8] (fun v i wr=>∃ (k:Nat) (q:Int),k≤S.length∧i = .int .i64 (k:Int)∧v = .int .i64 q∧Hid (q=smS (S.take k))∧0≤q∧q≤1000000*(k:Int)∧Blk wr w.heap.size 44 #[.string id,.int .i64 n,.int .i64 u,.int .i64 f,.slice A S.length c]∧Below w.heap.size w wr) (fun _ i _=>S.length - (intOf i).toNat)
 case atStart=>exact ⟨0,0,Nat.zero_le _,rfl,rfl,hd_ rfl,Int.le_refl _,by omega,k0,hb⟩
 case round=>
  clear k0 hb;obtain ⟨k,q,hk,rfl,rfl,hq,q0,q1,k0,hb⟩:=hrel;obtain ⟨t0,t1,-⟩:=k0.all;by_cases hlt:k<S.length
  · obtain ⟨s,hss⟩:∃ s,S[k]? = some s:=⟨_,List.getElem?_eq_getElem hlt⟩
    have hat:=smS_at hss;rw [← hq.out] at hat;have HSS:=hd_ hss;obtain ⟨gb,off,hA,hg,e0,e1⟩:=(HS.out.below (hb.mono hB)) k s hss;subst hA;clear hss;obtain ⟨a,b⟩:=s;simp only at e0 e1 hat;have hst:=fun W=>rStop_any W a b
    cases hp:psB (a,b) with
    | true=>
     rw [hp,if_pos rfl] at hat;rw [hp] at hst;obtain ⟨p0,p1,p2⟩:=psB_iff.1 hp;simp only at p0 p1 p2;have HAT:=hd_ hat.symm;have HST:=hd_ hst;clear hat hst hp;go_wp2_with fail
     refine (HST.out _).mono ?_;rintro e w1 ⟨rfl,b1⟩;have k1:=k0.below b1 k0.lt;replace hb:=hb.trans (b1.mono hb.size);clear b1 k0 t0 t1 e0 e1;obtain ⟨t0,t1,-⟩:=k1.all;obtain ⟨gb',off',hA',hg',e0,e1⟩:=(HS.out.below (hb.mono hB)) k (a,b) HSS.out;injection hA' with hA';injection hA' with hA1 hA2;subst hA1 hA2;simp only at e0 e1;go_wp2_with fail
     have ib0:(0:Int)≤(k:Int):=by omega
     have ib1:(k:Int)<(S.length:Int):=by omega
     go_quiet (fail)
     have k2:=k1.drewN nq;have hb2:=below_dN hb nq;clear k1 hb t0 t1 e0 e1;go_wp2
     go_roundw
     case rel=>exact ⟨k+1,q+(b - a),by omega,by go_num,rfl,HAT,by omega,by omega,k2,hb2⟩
     case measure=>simp [intOf];omega
    | false=>
     rw [hp,if_neg (by simp),Int.add_zero] at hat;rw [hp] at hst;have HAT:=hd_ hat.symm;have HST:=hd_ hst;clear hat hst hp;go_wp2_with fail
     refine (HST.out _).mono ?_;rintro e w1 ⟨rfl,b1⟩;have k1:=k0.below b1 k0.lt;replace hb:=hb.trans (b1.mono hb.size);clear b1 k0 t0 t1 e0 e1;go_wp2
     go_roundw
     case rel=>exact ⟨k+1,q,by omega,by go_num,rfl,HAT,q0,by omega,k1,hb⟩
     case measure=>simp [intOf];omega
  · obtain rfl:k=S.length:=by omega
    have hqq:=hq.out;rw [List.take_length] at hqq;have hrr:=HRR.out;rw [← hqq] at hrr;have HR3:=hd_ hrr;clear hqq hrr HRR hq;by_cases h2:q≤2000
    · have e2:Hid (decide (q≤2000)=true):=hd_ (decide_eq_true h2)
      generalize shB n u=b at *
      cases b with
      | true=>
       cases h3:decide ((m:Int)≤300)
       all_goals
        have hrr:=HR3.out;rw [e2.out,h3] at hrr;have HE:=hd_ hrr;clear hrr HR3;go_wp2_with fail
        refine (HSH.out _).mono ?_;rintro e w1 ⟨rfl,b1⟩;replace hb:=hb.trans (b1.mono hb.size);clear b1 k0 t0 t1;go_wp2
        go_ret
        exact ⟨by rw [HE.out];rfl,hb⟩
      | false=>
       have hrr:=HR3.out;rw [Bool.false_and,Bool.and_false] at hrr;have HE:=hd_ hrr;clear hrr HR3;go_wp2_with fail
       refine (HSH.out _).mono ?_;rintro e w1 ⟨rfl,b1⟩;replace hb:=hb.trans (b1.mono hb.size);clear b1 k0 t0 t1;go_wp2
       go_ret
       exact ⟨by rw [HE.out];rfl,hb⟩
    · have e2:decide (q≤2000)=false:=decide_eq_false h2
      have hrr:=HR3.out;rw [e2,Bool.false_and] at hrr;have HE:=hd_ hrr;clear hrr HR3;go_wp2
      go_ret
      exact ⟨by rw [HE.out];rfl,hb⟩
end Go.Proofs.YtknchlpcpgflkaaGreatDoor.Lim
